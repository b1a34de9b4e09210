/-
  NetTrue: the walk.
-/
import Derived.Test.YtniiikgkeiomoaaActs
import Derived.Test.YtniiikgkeiomoaaAll
namespace Go.Proofs.Ytniiikgkeiomoaa
open Go.RowKit Go.Maps

/-- What is held to be on its way is what is on its way, in some order. -/
structure TrueInv (w : World) (nb : Nat) (k : Nat) (os ps : List Pk) (C : Cuts) (v : Value) (wr : World) : Prop where
  perm : os.Perm ps
  len : os.length ≤ k
  cuts : C.n ≤ k
  lie : Lie w.heap.size w wr [row w.heap.size 25 3 v os.length (os.flatMap pkCells), net w.heap.size (some nb) ps C]
theorem cons_erase_perm {α : Type} : ∀ (l : List α) (j : Nat) (h : j < l.length), (l[j] :: l.eraseIdx j).Perm l
  | x :: l, 0, _ => List.Perm.refl _
  | x :: l, j + 1, h => by
    have hj : j < l.length := by simpa using h
    have ih := cons_erase_perm l j hj
    simp only [List.getElem_cons_succ, List.eraseIdx_cons_succ]
    exact (List.Perm.swap x (l[j]'hj) (l.eraseIdx j)).trans (List.Perm.cons x ih)
theorem perm_erase {os ps : List Pk} (h : os.Perm ps) (j m : Nat) (hj : j < os.length) (hm : m < ps.length) (e : os[j] = ps[m]) : (os.eraseIdx j).Perm (ps.eraseIdx m) := by
  have h1 := cons_erase_perm os j hj
  have h2 := cons_erase_perm ps m hm
  rw [e] at h1
  exact List.Perm.cons_inv ((h1.trans h).trans h2.symm)
theorem run_neq_pk_zero (w : World) : (binOp .neq 25 zeroPk zeroPk).run Try.prog w = .ok (.bool false) w := run_neq_pk_self ⟨0, 0, ⟨#[]⟩⟩ w
/-- The place of the first such packet is looked for. -/
structure FindInv (w : World) (nb bp ba : Nat) (x : Ac) (p : Pk) (os ps : List Pk) (C : Cuts) (v : Value) (j : Nat) (wr : World) : Prop where
  none : ∀ t (h : t < os.length), t < j → os[t] ≠ p
  lie : Lie w.heap.size w wr [pbox bp p, abox ba x, row w.heap.size 25 3 v os.length (os.flatMap pkCells), net w.heap.size (some nb) ps C]

set_option maxRecDepth 100000 in
set_option maxHeartbeats 8000000 in
theorem true_ok (vl : Value) (l : List Ac) (w : World) (hl : Rd w 6 vl l.length (l.flatMap acCells)) (hm : l.length ≤ maxLen) (hok : ∀ x ∈ l, x.ok) :
    Calls Try.prog 5 #[vl] w fun e w' => e = .returned (.bool true) ∧ Below w.heap.size w w' := by
  have hm0 := hm
  replace hm : l.length ≤ 9223372036854775807 := by unfold maxLen at hm; omega
  have HR := hide hl
  have HOK := hide hok
  have HM := hide hm0
  obtain ⟨A, cA, rfl⟩ := hl.shape
  obtain ⟨i0, hinf, hz0, hz1, hz2⟩ := info_parts info25
  clear hl hok hm0
  go_enter Try.func5, Try.ntmps5
  go_wp2_with fail
  refine (awake_any w).mono ?_
  rintro e w0 ⟨rfl, hb0⟩
  go_wp2_with fail
  refine (great_any _ l w0 (HR.out.below hb0) HM.out HOK.out).mono ?_
  rintro e w0' ⟨b, rfl, hb, rfl⟩
  cases b with
  | true =>
    go_wp2_with fail
    go_ret
    exact ⟨rfl, hb0⟩
  | false =>
    have h200 := hb rfl
    clear hb
    go_wp2_with fail
    refine (new_any ((Lie.start w).of_below hb0)).mono ?_
    rintro e w1 ⟨rfl, s1⟩
    generalize w0.heap.size + 1 = nb at *
    unfold ptr
    have T1 : TrueInv w nb 0 [] [] Cuts.none (.slice none 0 0) w1 := ⟨List.Perm.refl _, Nat.le_refl _, Nat.le_refl _, s1.nil_row 25 3⟩
    clear hb0 s1
    go_wp2_with fail
    go_loopw [4, 5] (fun v i wr => ∃ (k : Nat) (os ps : List Pk) (C : Cuts) (B : Option Addr) (d : Nat), k ≤ l.length ∧ i = .int .i64 k ∧ v = .slice B os.length d ∧ TrueInv w nb k os ps C (.slice B os.length d) wr) (fun _ i _ => l.length - (intOf i).toNat)
    case atStart => exact ⟨0, [], [], Cuts.none, none, 0, by omega, rfl, rfl, T1⟩
    case round =>
      obtain ⟨k, os, ps, C, B, d, hk, rfl, rfl, hperm, hlen, hCn, hS⟩ := hrel
      clear T1
      by_cases hlt : k < l.length
      · obtain ⟨bl, ol, rfl, hbl, q0, q1, q2, q3, q4, q5⟩ := rd_ac (HR.out.below hS.below) k hlt
        have hx := HOK.out _ (List.getElem_mem hlt)
        have hsz := hx.2
        unfold maxLen at hsz
        have hki : (k : Int) < (l.length : Int) := by omega
        have hpl := hperm.length_eq
        have HL := hide hpl
        have HP := hide hperm
        generalize l[k] = x at *
        have hS' : Lie w.heap.size w (wr.alloc (.cells #[.int .i64 x.do_, .int .i64 x.p.from_, .int .i64 x.p.to_, .string x.p.data, .int .i64 x.i, .bool x.on] 40)) [abox wr.heap.size x, row w.heap.size 25 3 (.slice B os.length d) os.length (os.flatMap pkCells), net w.heap.size (some nb) ps C] := hS.alloc _
        have S1 := hide hS'
        clear hS hS' hperm hpl
        go_wp2_with fail
        refine (waiting_any S1.out 2 (some nb) ps C rfl).mono ?_
        rintro e w' ⟨rfl, rfl⟩
        rw [← HL.out]
        generalize hW : wr.alloc (.cells #[.int .i64 x.do_, .int .i64 x.p.from_, .int .i64 x.p.to_, .string x.p.data, .int .i64 x.i, .bool x.on] 40) = W at *
        clear hW
        generalize wr.heap.size = ba at *
        obtain ⟨c0, c1, c2, c3, c4, c5⟩ := cell6 (S1.out.get 0 rfl)
        clear q0 q1 q2 q3 q4 q5 hbl
        by_cases h0 : x.do_ = 0
        · have d1 : (x.do_ == 0) = true := by simpa using h0
          rw [h0] at c0
          clear h0 d1
          go_wp2_with fail
          refine (send_any S1.out 2 (some nb) ps C rfl x.p hx.1).mono ?_
          rintro e w2 ⟨rfl, s2⟩
          have hlt24 : ps.length < 1024 := by have := HL.out; omega
          by_cases hs : x.p.data.size ≤ 8192
          · have ek := send_okk nb ps x.p hs hlt24
            have hsi : (x.p.data.size : Int) ≤ 8192 := by omega
            rw [ek]
            by_cases hc : cutOf C x.p = true
            · rw [send_lost _ _ _ _ hc] at s2
              simp only [List.set] at s2
              obtain ⟨c0, c1, c2, c3, c4, c5⟩ := cell6 (s2.get 0 rfl)
              have S2 := hide s2
              clear s2 ek hc hs hlt24
              go_wp2_with fail
              refine (waiting_any S2.out 2 (some nb) ps C rfl).mono ?_
              rintro e w' ⟨rfl, rfl⟩
              rw [← HL.out]
              go_wp2_with fail
              refine (waiting_any S2.out 2 (some nb) ps C rfl).mono ?_
              rintro e w' ⟨rfl, rfl⟩
              rw [← HL.out]
              go_wp2_with fail
              go_roundw
              case rel => exact ⟨k + 1, os, ps, C, B, d, by omega, by go_num, rfl, HP.out, by omega, by omega, S2.out.pop⟩
              case measure => simp [intOf]; omega
            · have hcf : cutOf C x.p = false := by simpa using hc
              rw [send_too _ _ _ _ hs hlt24 hcf] at s2
              simp only [List.set] at s2
              obtain ⟨c0, c1, c2, c3, c4, c5⟩ := cell6 (s2.get 0 rfl)
              have S2 := hide s2
              have hl2 : ((ps ++ [x.p]).length : Int) = (os.length : Int) + 1 := by rw [List.length_append, ← HL.out]; simp
              have HL2 := hide hl2
              have own2 := hide (s2.get 1 rfl)
              have hbw := s2.base_le
              clear s2 ek hc hcf hs hlt24 hl2
              go_wp2_with fail
              refine (waiting_any S2.out 2 (some nb) (ps ++ [x.p]) C rfl).mono ?_
              rintro e w' ⟨rfl, rfl⟩
              rw [HL2.out]
              go_wp2_with (at_builtin; refine wpList_append1 rfl (.tmp 52) (.tmp 55) 22 rfl w.heap.size 25 i0 _ 3 32 Try.underlying22 hinf hz0 hz1 hz2 rfl (by decide) (.slice B os.length d) _ _ (by simp [Act.eval]) own2.out (pkCells x.p) (by simp [Act.eval]) rfl (pk_oneCell x.p) (by omega) (by omega) hbw ?_; intro v3 w3 own3 t3 new3; obtain ⟨B3, d3, rfl⟩ := (Rd.of_own own3).shape)
              have hel : os.length + 1 = (os ++ [x.p]).length := by simp
              rw [hel] at own3 new3 ⊢
              have s3 := S2.out.step 1 rfl (t' := row w.heap.size 25 3 (.slice B3 (os ++ [x.p]).length d3) (os ++ [x.p]).length ((os ++ [x.p]).flatMap pkCells)) t3 (by rw [List.flatMap_append]; simpa [row] using own3) (fun g hg => new3 g hg)
              simp only [List.set] at s3
              have S3 := hide s3
              have hl3 : ((os ++ [x.p]).length) = (ps ++ [x.p]).length := by rw [List.length_append, List.length_append, HL.out]
              have HL3 := hide hl3
              clear own3 new3 t3 s3 hel hl3 c0 c1 c2 c3 c4 c5
              go_wp2_with fail
              refine (waiting_any S3.out 2 (some nb) (ps ++ [x.p]) C rfl).mono ?_
              rintro e w' ⟨rfl, rfl⟩
              rw [← HL3.out]
              go_wp2_with fail
              go_roundw
              case rel => exact ⟨k + 1, os ++ [x.p], (ps ++ [x.p]), C, B3, d3, by omega, by go_num, (by simp), (HP.out.append_right _), by simp; omega, by omega, S3.out.pop⟩
              case measure => simp [intOf]; omega
          · have ek : sendOk (some nb) ps x.p = false := by simp [sendOk, hs]
            have et : sendTo (some nb) ps C x.p = ps := by unfold sendTo; rw [ek]; rfl
            have hsi : ¬ (x.p.data.size : Int) ≤ 8192 := by omega
            rw [ek]
            rw [et] at s2
            simp only [List.set] at s2
            obtain ⟨c0, c1, c2, c3, c4, c5⟩ := cell6 (s2.get 0 rfl)
            have S2 := hide s2
            clear s2 ek et hs hlt24
            go_wp2_with fail
            refine (waiting_any S2.out 2 (some nb) ps C rfl).mono ?_
            rintro e w' ⟨rfl, rfl⟩
            rw [← HL.out]
            go_wp2_with fail
            refine (waiting_any S2.out 2 (some nb) ps C rfl).mono ?_
            rintro e w' ⟨rfl, rfl⟩
            rw [← HL.out]
            go_wp2_with fail
            go_roundw
            case rel => exact ⟨k + 1, os, ps, C, B, d, by omega, by go_num, rfl, HP.out, by omega, by omega, S2.out.pop⟩
            case measure => simp [intOf]; omega
        · have d1 : (x.do_ == 0) = false := by simpa using h0
          clear h0
          by_cases h1 : x.do_ = 1
          · rw [h1] at c0
            clear h1 d1
            go_wp2_with fail
            refine (come_any S1.out 2 (some nb) ps C rfl x.i (by have := HL.out; omega)).mono ?_
            rintro e w2 ⟨rfl, s2⟩
            by_cases hps : ps = []
            · subst hps
              have hos : os.length = 0 := HL.out
              obtain rfl : os = [] := List.eq_nil_of_length_eq_zero hos
              rw [show comeOf C [] x.i = none from rfl, told_none]
              rw [show lostTo [] x.i = [] from rfl] at s2
              simp only [List.set] at s2
              have S2 := hide s2
              have hz := fun w => run_neq_pk_zero w
              have hl0 : (([] : List Pk).length : Int) = 0 := rfl
              rw [hl0]
              clear s2 hos hl0
              go_wp2_with fail
              refine (waiting_any (by exact S2.out.skip _) 2 (some nb) [] C rfl).mono ?_
              rintro e w' ⟨rfl, rfl⟩
              go_wp2_with fail
              go_roundw
              case rel => exact ⟨k + 1, [], [], C, B, d, by omega, by go_num, rfl, HP.out, by simp, by omega, (S2.out.skip _).pop⟩
              case measure => simp [intOf]; omega
            · have hpos : 0 < ps.length := List.length_pos_iff.2 hps
              clear hps
              have hat := at_lt x.i ps.length hpos
              obtain ⟨m, hm4⟩ : ∃ m, m = at_ x.i ps.length := ⟨_, rfl⟩
              have hatm : m < ps.length := by rw [hm4]; exact hat
              have hcome : comeOf C ps x.i = if cutOf C (ps[m]'hatm) = true then none else some (ps[m]'hatm) := by
                unfold comeOf
                simp only [← hm4]
                rw [List.getElem?_eq_getElem hatm]
              have hlost : lostTo ps x.i = ps.eraseIdx m := by unfold lostTo; rw [← hm4]
              rw [hlost] at s2
              simp only [List.set] at s2
              have hel : (ps.eraseIdx m).length = ps.length - 1 := List.length_eraseIdx_of_lt hatm
              have hwv : ((ps.eraseIdx m).length : Int) = (os.length : Int) - 1 := by have := HL.out; omega
              have hos1 : (0 : Int) < (os.length : Int) := by have := HL.out; omega
              have hos2 : ((os.length : Int) == 0) = false := beq_eq_false_iff_ne.2 (by omega)
              have HWV := hide hwv
              have HEL := hide hel
              by_cases hc : cutOf C ps[m] = true
              · rw [hcome, if_pos hc, told_none]
                have S2 := hide s2
                have hz := fun w => run_neq_pk_zero w
                clear s2 hc hcome hlost hel hwv hat hm4 hpos
                go_wp2_with fail
                refine (waiting_any (by exact S2.out.skip _) 2 (some nb) (ps.eraseIdx m) C rfl).mono ?_
                rintro e w' ⟨rfl, rfl⟩
                rw [HWV.out]
                go_wp2_with fail
                go_ret
                exact ⟨rfl, (S2.out.skip _).below⟩
              · rw [hcome, if_neg hc, told_some]
                obtain ⟨p, hp⟩ : ∃ p, p = ps[m] := ⟨_, rfl⟩
                rw [← hp]
                have hin : p ∈ os := HP.out.mem_iff.2 (hp ▸ List.getElem_mem hatm)
                have HPP := hide hp
                have HIN := hide hin
                have HAT := hide hatm
                have s3 : Lie w.heap.size w _ [pbox w2.heap.size p, abox ba x, row w.heap.size 25 3 (.slice B os.length d) os.length (os.flatMap pkCells), net w.heap.size (some nb) (ps.eraseIdx m) C] := s2.alloc (.cells #[.int .i64 p.from_, .int .i64 p.to_, .string p.data] 25)
                have S3 := hide s3
                clear s2 s3 hc hcome hlost hel hwv hat hm4 hpos hp hin
                go_wp2_with fail
                refine (waiting_any S3.out 3 (some nb) (ps.eraseIdx m) C rfl).mono ?_
                rintro e w' ⟨rfl, rfl⟩
                rw [HWV.out]
                go_wp2_with fail
                generalize hW2 : w2.alloc (.cells #[.int .i64 p.from_, .int .i64 p.to_, .string p.data] 25) = W2 at *
                clear hW2
                generalize w2.heap.size = bp at *
                obtain ⟨wo, rfl⟩ : ∃ wo : World, wo = wr := ⟨_, rfl⟩
                have F0 : FindInv w nb bp ba x p os (ps.eraseIdx m) C (.slice B os.length d) 0 W2 := ⟨fun t _ h => by omega, S3.out⟩
                clear S3
                go_loopw [11] (fun kv wr => ∃ j : Nat, j ≤ os.length ∧ kv = .int .i64 j ∧ FindInv w nb bp ba x p os (ps.eraseIdx m) C (.slice B os.length d) j wr) (fun kv _ => os.length - (intOf kv).toNat)
                case atStart => exact ⟨0, by omega, rfl, F0⟩
                case round =>
                  clear F0
                  obtain ⟨j, hj, rfl, hnone, hS⟩ := hrel
                  have HN := hide hnone
                  clear hnone
                  by_cases hjl : j < os.length
                  · have own := hS.get 2 rfl
                    obtain ⟨g, cap, hv, hbg, hgl⟩ := World.ownsRow.form (h := own) (by omega)
                    injection hv with e1 _ e3
                    subst e1 e3
                    obtain ⟨b, o, hbo, hbl, r0, r1, r2⟩ := rd_pk (Rd.of_own own) j hjl
                    injection hbo with hbo
                    injection hbo with e1 e2
                    subst e1 e2
                    rw [Nat.zero_add] at r0 r1 r2
                    obtain ⟨x0, x1, x2, _⟩ := cell3 (hS.get 0 rfl)
                    have S4 := hide hS
                    have OWN := hide own
                    have hji : (j : Int) < (os.length : Int) := by omega
                    by_cases hfound : os[j] = p
                    · have hne := fun w => run_neq_pk_self p w
                      rw [hfound] at r0 r1 r2
                      have HF := hide hfound
                      clear hS own hfound
                      go_wp2_with fail
                      go_quiet (fail)
                      go_wp2_with fail
                      refine name_code fun W hW => ?_
                      have s7 := S4.out.drewN nq
                      rw [← hW] at s7
                      have S7 := hide s7
                      have own7 := s7.get 2 rfl
                      have hb7 := s7.base_le
                      have RH := rd_head own7 j (by omega)
                      obtain ⟨A2, hA2, RT, hA2b⟩ := rd_tail own7 j hjl
                      have hic : (j : Int) + 1 ≤ (os.length : Int) := by omega
                      have hcap := own_cap own7
                      have hcm := hcap.2
                      unfold maxLen at hcm
                      have hjc : j ≤ d := by omega
                      have hjc1 : j + 1 ≤ d := by omega
                      have RHH := hide RH
                      have RTT := hide RT
                      have A2B := hide hA2b
                      have hw7 : g < W.heap.size := (ownsRow_base own7 rfl).2
                      clear hW S4 s7 own7 RH RT hA2b r0 r1 r2 x0 x1 x2
                      have b1 : 0 + j ≤ 1000000 := by omega
                      have b2 : 0 + j + (os.length - (j + 1)) ≤ 1000000 := by omega
                      have b3 : w.heap.size ≤ (W.alloc (.cells #[] 25)).heap.size := by simp; omega
                      have b4 : (32 : Nat) ≤ 1000 := by omega
                      have g1 : (j : Int) + 1 ≤ 9223372036854775807 := by omega
                      have g2 : (0 : Int) ≤ (j : Int) + 1 := by omega
                      have g3 : ((j : Int) + 1).toNat = j + 1 := by omega
                      have tW : Turn (fun _ => False) W (W.alloc (.cells #[] 25)) := (Turn.refl _ W).alloc _
                      have hgne : W.heap.size ≠ g := by omega
                      have RH8 := hide (RHH.out.turn tW (fun _ _ _ h => h))
                      have RT8 := hide (RTT.out.turn tW (fun _ _ _ h => h))
                      have O8 := hide (own_laid W w.heap.size 25 3 hb7)
                      have X1 := hide (fun u (hu : u ∈ (os.flatMap pkCells).take (j * 3)) => pks_oneCell os u (List.mem_of_mem_take hu))
                      have X2 := hide (fun u (hu : u ∈ (os.flatMap pkCells).drop ((j + 1) * 3)) => pks_oneCell os u (List.mem_of_mem_drop hu))
                      have A2G := hide (fun w8 (t8 : Turn (fun k => (Value.slice (some ⟨W.heap.size, 0, none⟩) 0 0).ownBlock = some k) (W.alloc (.cells #[] 25)) w8) => RT8.out.turn t8 (fun g' _ h1 h2 => by
                        rw [A2B.out] at h1
                        injection h1 with h1
                        injection h2 with h2
                        exact hgne (h2.trans h1.symm)))
                      have hwr : IntKind.i64.wrap ((j : Int) + 1) = (j : Int) + 1 := IntWalk.i64_in _ (by omega)
                      go_region_law (first
                        | (refine step_appendRd rfl (.tmp 112) (.tmp 115) 22 rfl w.heap.size 25 i0 _ 3 32 Try.underlying22 hinf hz0 hz1 hz2 rfl (by decide) (.slice (some ⟨W.heap.size, 0, none⟩) 0 0) 0 [] (by simp [Act.eval]) (by exact O8.out) (.slice (some ⟨g, 0, none⟩) j d) j ((os.flatMap pkCells).take (j * 3)) (by simp [Act.eval]) (by exact RH8.out) X1.out b1 b4 b3 ?_; intro A1 c1 w8 own8 t8 new8; have t8' : Turn (fun k => (Value.slice (some ⟨W.heap.size, 0, none⟩) 0 0).ownBlock = some k) (W.alloc (.cells #[] 25)) w8 := ⟨t8.os, t8.tape, t8.output, t8.size, t8.block⟩; have RT9 := hide (A2G.out _ t8'); have b5 : w.heap.size ≤ w8.heap.size := Nat.le_trans b3 t8'.size)
                        | (refine step_appendRd rfl (.tmp 116) (.tmp 120) 22 rfl w.heap.size 25 i0 _ 3 32 Try.underlying22 hinf hz0 hz1 hz2 rfl (by decide) (.slice A1 (0 + j) c1) (0 + j) ([] ++ (os.flatMap pkCells).take (j * 3)) (by simp [Act.eval]) (by exact own8) (.slice (some A2) (os.length - (j + 1)) (d - (j + 1))) (os.length - (j + 1)) ((os.flatMap pkCells).drop ((j + 1) * 3)) (by simp [Act.eval]) (by exact RT9.out) X2.out b2 b4 b5 ?_; intro A3 c3 w9 own9 t9 new9))
                      all_goals
                        clear hwr
                        have q8 : ∀ g', (Value.slice A1 (0 + j) c1).ownBlock = some g' → W.heap.size ≤ g' := fun g' h => by
                          rcases new8 g' h with h1 | h1
                          · injection h1 with h1; exact Nat.le_of_eq h1
                          · exact Nat.le_trans tW.size h1
                        have q9 : ∀ g', (Value.slice A3 (0 + j + (os.length - (j + 1))) c3).ownBlock = some g' → W.heap.size ≤ g' := fun g' h => by
                          rcases new9 g' h with h1 | h1
                          · exact q8 g' h1
                          · exact Nat.le_trans (Nat.le_trans tW.size t8'.size) h1
                        have T9 : Turn (fun _ => False) W w9 := (tW.step t8' (fun k hk h1 => Nat.lt_irrefl _ (Nat.lt_of_lt_of_le hk (Nat.le_of_eq (Option.some.inj h1))))).step t9 (fun k hk h1 => Nat.lt_irrefl _ (Nat.lt_of_lt_of_le hk (q8 k h1)))
                        have hel : (os.eraseIdx j).length = os.length - 1 := List.length_eraseIdx_of_lt hjl
                        have hel2 : 0 + j + (os.length - (j + 1)) = (os.eraseIdx j).length := by omega
                        rw [hel2] at own9 q9
                        have hfl : [] ++ (os.flatMap pkCells).take (j * 3) ++ (os.flatMap pkCells).drop ((j + 1) * 3) = (os.eraseIdx j).flatMap pkCells := by rw [flat_erase]; simp
                        rw [hfl] at own9
                        have s9 := S7.out.step 2 rfl (t' := row w.heap.size 25 3 (.slice A3 (os.eraseIdx j).length c3) (os.eraseIdx j).length ((os.eraseIdx j).flatMap pkCells)) (T9.mono fun _ _ h => h.elim) own9 (fun g' h => .inr (q9 g' h))
                        simp only [List.set] at s9
                        have S9 := hide s9
                        have hp9 := perm_erase HP.out j m hjl hatm (HF.out.trans HPP.out)
                        have HP9 := hide hp9
                        have hl9 : (os.eraseIdx j).length = (ps.eraseIdx m).length := hp9.length_eq
                        have HL9 := hide hl9
                        have hel3 : j + (os.length - (j + 1)) = (os.eraseIdx j).length := by omega
                        rw [hel3]
                        have hle9 : (os.eraseIdx j).length ≤ k + 1 := by omega
                        clear hel hel2 hel3 hfl own9 q8 q9 T9 s9 hp9 hl9 hA2
                        generalize os.eraseIdx j = os9 at *
                        go_wp2_with fail
                        refine (waiting_any S9.out 3 (some nb) (ps.eraseIdx m) C rfl).mono ?_
                        rintro e w' ⟨rfl, rfl⟩
                        rw [← HL9.out]
                        go_wp2_with fail
                        go_roundw
                        case rel => exact ⟨k + 1, os9, (ps.eraseIdx m), C, A3, c3, by omega, by go_num, rfl, HP9.out, by omega, by omega, S9.out.pop.pop⟩
                        case measure => simp [intOf]; omega
                    · have hne := fun w => run_neq_pk os[j] p w
                      have hpk : pkEq os[j] p = false := by cases h : pkEq os[j] p; rfl; exact absurd (pkEq_eq h) hfound
                      rw [hpk] at hne
                      have HF := hide (show ∀ t (h : t < os.length), t < j + 1 → os[t] ≠ p from fun t h ht => by
                        by_cases e : t = j
                        · subst e; exact hfound
                        · exact HN.out t h (by omega))
                      generalize os[j] = P at *
                      clear hS own hfound hpk
                      go_wp2_with fail
                      go_quiet (fail)
                      go_wp2_with fail
                      go_roundw
                      case rel => exact ⟨j + 1, by omega, by go_num, HF.out, S4.out.drewN _⟩
                      case measure => simp [intOf]; omega
                  · exfalso
                    obtain ⟨t, ht, he⟩ := List.mem_iff_getElem.1 HIN.out
                    exact HN.out t ht (by omega) he
          · have d2 : (x.do_ == 1) = false := by simpa using h1
            clear h1
            by_cases h3 : x.do_ = 3
            · rw [h3] at c0
              clear h3 d1 d2
              go_wp2_with fail
              refine (twin_any S1.out 2 (some nb) ps C rfl (by have := HL.out; omega)).mono ?_
              rintro e w2 ⟨o, ho, rfl, s2⟩
              obtain ⟨tb, rfl⟩ := Option.isSome_iff_exists.1 ho
              unfold ptr
              obtain ⟨c0, c1, c2, c3, c4, c5⟩ := cell6 (s2.get 1 rfl)
              have S2 := hide s2
              clear s2 ho
              go_wp2_with fail
              refine (dup_any S2.out 3 (some nb) ps C rfl x.i (by have := HL.out; omega)).mono ?_
              rintro e w3 ⟨rfl, s3⟩
              simp only [List.set] at s3
              by_cases hps : ps = []
              · subst hps
                have hos : os.length = 0 := HL.out
                obtain rfl : os = [] := List.eq_nil_of_length_eq_zero hos
                rw [show dupOk [] = false from rfl]
                rw [show dupTo [] x.i = [] from rfl] at s3
                have S3 := hide s3
                have hl0 : (([] : List Pk).length : Int) = 0 := rfl
                rw [hl0]
                clear s3 hos hl0
                go_wp2_with fail
                refine (waiting_any S3.out 3 (some nb) [] C rfl).mono ?_
                rintro e w' ⟨rfl, rfl⟩
                go_wp2_with fail
                go_roundw
                case rel => exact ⟨k + 1, [], [], C, B, d, by omega, by go_num, rfl, HP.out, by simp, by omega, S3.out.pop.pop⟩
                case measure => simp [intOf]; omega
              · have hpos : 0 < ps.length := List.length_pos_iff.2 hps
                have hat := at_lt x.i ps.length hpos
                obtain ⟨m, hm4⟩ : ∃ m, m = at_ x.i ps.length := ⟨_, rfl⟩
                have hatm : m < ps.length := by rw [hm4]; exact hat
                have hok3 : dupOk ps = true := by unfold dupOk; rw [decide_eq_true_eq]; have := HL.out; omega
                have hcome : comeOf C ps x.i = if cutOf C (ps[m]'hatm) = true then none else some (ps[m]'hatm) := by
                  unfold comeOf
                  simp only [← hm4]
                  rw [List.getElem?_eq_getElem hatm]
                have hto : dupTo ps x.i = ps ++ [ps[m]'hatm] := by
                  unfold dupTo
                  rw [if_pos hok3]
                  simp only [← hm4]
                  rw [List.getElem?_eq_getElem hatm]
                  rfl
                rw [hok3]
                rw [hto] at s3
                have S3 := hide s3
                have hos1 : (0 : Int) < (os.length : Int) := by have := HL.out; omega
                have hos2 : ((os.length : Int) == 0) = false := beq_eq_false_iff_ne.2 (by omega)
                have hwv : ((ps ++ [ps[m]]).length : Int) = (os.length : Int) + 1 := by rw [List.length_append, ← HL.out]; simp
                have HWV := hide hwv
                have HC := hide hcome
                obtain ⟨c0, c1, c2, c3, c4, c5⟩ := cell6 (s3.get 1 rfl)
                clear s3 hcome hto hok3 hat hm4 hpos hwv
                go_wp2_with fail
                refine (waiting_any S3.out 3 (some nb) (ps ++ [ps[m]]) C rfl).mono ?_
                rintro e w' ⟨rfl, rfl⟩
                rw [HWV.out]
                go_wp2_with fail
                refine (come_any S3.out 0 (some tb) ps C rfl x.i (by have := HL.out; omega)).mono ?_
                rintro e w4 ⟨rfl, s4⟩
                simp only [List.set] at s4
                by_cases hc : cutOf C ps[m] = true
                · rw [HC.out, if_pos hc, told_none]
                  have S4 := hide s4
                  clear s4 hc
                  go_wp2_with fail
                  go_ret
                  exact ⟨rfl, (S4.out.skip _).below⟩
                · rw [HC.out, if_neg hc, told_some]
                  generalize hp : ps[m] = p at *
                  have s5 : Lie w.heap.size w (w4.alloc (.cells #[.int .i64 p.from_, .int .i64 p.to_, .string p.data] 25)) _ := s4.skip _
                  have S5 := hide s5
                  have own5 := hide (s5.get 2 rfl)
                  have hb5 := s5.base_le
                  clear s4 s5 hc c0 c1 c2 c3 c4 c5 hp
                  go_wp2_with (at_builtin; refine wpList_append1 rfl (.tmp 155) (.tmp 157) 22 rfl w.heap.size 25 i0 _ 3 32 Try.underlying22 hinf hz0 hz1 hz2 rfl (by decide) (.slice B os.length d) _ _ (by simp [Act.eval]) own5.out (pkCells p) (by simp [Act.eval]) rfl (pk_oneCell p) (by omega) (by omega) hb5 ?_; intro v6 w6 own6 t6 new6; obtain ⟨B6, d6, rfl⟩ := (Rd.of_own own6).shape)
                  have hel : os.length + 1 = (os ++ [p]).length := by simp
                  rw [hel] at own6 new6
                  have s6 := S5.out.step 2 rfl (t' := row w.heap.size 25 3 (.slice B6 (os ++ [p]).length d6) (os ++ [p]).length ((os ++ [p]).flatMap pkCells)) t6 (by rw [List.flatMap_append]; simpa [row] using own6) (fun g hg => new6 g hg)
                  simp only [List.set] at s6
                  have S6 := hide s6
                  have hl6 : ((os ++ [p]).length) = (ps ++ [p]).length := by rw [List.length_append, List.length_append, HL.out]
                  have HL6 := hide hl6
                  clear own6 new6 t6 s6 hel hl6
                  go_wp2_with fail
                  refine (waiting_any S6.out 3 (some nb) (ps ++ [p]) C rfl).mono ?_
                  rintro e w' ⟨rfl, rfl⟩
                  rw [← HL6.out]
                  go_wp2_with fail
                  go_roundw
                  case rel => exact ⟨k + 1, os ++ [p], (ps ++ [p]), C, B6, d6, by omega, by go_num, (by simp), (HP.out.append_right _), by simp; omega, by omega, S6.out.pop.pop⟩
                  case measure => simp [intOf]; omega
            · have d3 : (x.do_ == 3) = false := by simpa using h3
              clear h3
              by_cases h4 : x.do_ = 4
              · rw [h4] at c0
                clear h4 d1 d2 d3
                go_wp2_with fail
                refine (cut_any S1.out 2 (some nb) ps C rfl x.p.from_ x.p.to_ x.on (by unfold maxLen; omega) hx.1.1 hx.1.2).mono ?_
                rintro e w2 ⟨rfl, s2⟩
                simp only [List.set] at s2
                have S2 := hide s2
                clear s2
                go_wp2_with fail
                refine (waiting_any S2.out 2 (some nb) ps (cutTo (some nb) C x.p.from_ x.p.to_ x.on) rfl).mono ?_
                rintro e w' ⟨rfl, rfl⟩
                rw [← HL.out]
                go_wp2_with fail
                go_roundw
                case rel => exact ⟨k + 1, os, ps, (cutTo (some nb) C x.p.from_ x.p.to_ x.on), B, d, by omega, by go_num, rfl, HP.out, by omega, by show C.n + 1 ≤ k + 1; omega, S2.out.pop⟩
                case measure => simp [intOf]; omega
              · have d4 : (x.do_ == 4) = false := by simpa using h4
                clear h4
                go_wp2_with fail
                refine (waiting_any S1.out 2 (some nb) ps C rfl).mono ?_
                rintro e w' ⟨rfl, rfl⟩
                rw [← HL.out]
                go_wp2_with fail
                go_roundw
                case rel => exact ⟨k + 1, os, ps, C, B, d, by omega, by go_num, rfl, HP.out, by omega, by omega, S1.out.pop⟩
                case measure => simp [intOf]; omega
      · go_wp2_with fail
        go_ret
        exact ⟨rfl, hS.below⟩
end Go.Proofs.Ytniiikgkeiomoaa
