/-
  NetAll: the walk.
-/
import Derived.Test.YtniiikgkeiomoaaWays
import Derived.StillTailTactics
import Derived.Test.YtniiikgkeiomoaaStep
namespace Go.Proofs.Ytniiikgkeiomoaa
open Go.RowKit Go.Maps

/-- Ways that are cut, and not any more. -/
def CutInv (w : World) (nb : Nat) (ss : List Pk) (v : Value) (k : Nat) (wr : World) : Prop :=
  ∃ C : Cuts, (∀ x y, C.f x y = false) ∧ C.n ≤ 2 * k ∧ Lie w.heap.size w wr [row w.heap.size 25 3 v ss.length (ss.flatMap pkCells), net w.heap.size (some nb) ss C]
theorem cuts_twice (C : Cuts) (h : ∀ x y, C.f x y = false) (a b : Int) (x y : Int) : ((C.set (lo a b) (hi a b) true).set (lo b a) (hi b a) false).f x y = false := by
  rw [lo_comm b a, hi_comm b a]
  unfold Cuts.set
  dsimp only
  split
  · rfl
  · exact h x y
def TwInv (w : World) (nb tb : Nat) (ss : List Pk) (v : Value) (C : Cuts) (k : Nat) (wr : World) : Prop :=
  Lie w.heap.size w wr [net w.heap.size (some tb) (restOf false ss k) C, row w.heap.size 25 3 v ss.length (ss.flatMap pkCells), net w.heap.size (some nb) ss C]
theorem name_code {P : Program} {c : Code} {Q : Exit → Act → World → Prop} {a : Act} {w : World} (h : ∀ W, W = w → Code.wp P c Q a W) : Code.wp P c Q a w := h w rfl
/-- While they are asked for. -/
structure AskInv (w : World) (nb tb m : Nat) (C : Cuts) (os : List Pk) (v : Value) (wr : World) : Prop where
  len : os.length ≤ m
  lie : Lie w.heap.size w wr [net w.heap.size (some tb) [] C, row w.heap.size 25 3 v os.length (os.flatMap pkCells), net w.heap.size (some nb) os C]
theorem comeOf_all (C : Cuts) (h : ∀ x y, C.f x y = false) (ps : List Pk) (i : Int) : comeOf C ps i = ps[at_ i ps.length]? := by
  unfold comeOf cutOf
  simp only [h]
  cases ps[at_ i ps.length]? <;> rfl

set_option maxRecDepth 100000 in

set_option maxHeartbeats 4000000 in
theorem all_any (vl va : Value) (l : List Pk) (ks : List Int) (cut : Bool) (w : World) (hla : Rd w 1 va ks.length (ks.map (Value.int .i64))) (hma : ks.length ≤ maxLen) (hl : Rd w 3 vl l.length (l.flatMap pkCells)) (hm : l.length ≤ maxLen) (hok : ∀ p ∈ l, p.ok ∧ p.data.size ≤ maxLen) :
    Calls Try.prog 6 #[vl, va, .bool cut] w fun e w' => e = .returned (.bool true) ∧ Below w.heap.size w w' := by
  replace hm : l.length ≤ 9223372036854775807 := by unfold maxLen at hm; omega
  replace hma : ks.length ≤ 9223372036854775807 := by unfold maxLen at hma; omega
  have HA := hide hla
  have HR := hide hl
  have HOK := hide hok
  obtain ⟨A, cA, rfl⟩ := hl.shape
  obtain ⟨i0, hinf, hz0, hz1, hz2⟩ := info_parts info25
  obtain ⟨A2, cA2, rfl⟩ := hla.shape
  clear hl hok hla
  go_enter Try.func6, Try.ntmps6
  go_wp2_with fail
  refine (awake_any w).mono ?_
  rintro e w0 ⟨rfl, hb0⟩
  have hs0 := hb0.size
  go_wp2_with fail
  go_loop [7, 8] (fun n i => ∃ k : Nat, k ≤ l.length ∧ k ≤ 101 ∧ i = .int .i64 k ∧ Count l k n) (fun _ i => l.length - (intOf i).toNat)
  case atStart => exact ⟨0, by omega, by omega, rfl, rfl⟩
  case round =>
    obtain ⟨k, hk, hk2, rfl, hn⟩ := hrel
    obtain ⟨s, hs⟩ : ∃ s : Nat, s = bytesOf (l.take k) := ⟨_, rfl⟩
    have hs2 : s ≤ 6060101 := by
      have := bytesOf_le (l.take k)
      simp only [List.length_take] at this
      omega
    rw [Count, ← hs] at hn
    subst hn
    by_cases hlt : k < l.length
    · by_cases h300 : k ≤ 100
      · obtain ⟨bl, ol, rfl, hbl, hcell⟩ := HR.out.cells (by omega)
        have c2 := (hb0.cell (p := ⟨bl, _, none⟩) hbl).trans (hcell _ _ (pk_at l k hlt).2.2)
        rw [← Nat.add_assoc] at c2
        have hmin := fun ts t w => run_min6 l[k].data.size ts t w
        have hcap := cap6_le l[k].data.size
        have HS := hide hs
        clear hcell hs
        go_wp2_with fail
        go_round
        case rel => exact ⟨k + 1, by omega, by omega, by go_num, by rw [Count, take_snoc l k hlt, bytesOf_snoc, ← HS.out]; go_num⟩
        case measure => simp [intOf]; omega
      · have hbig : 100 < l.length := by omega
        go_wp2_with fail
        go_ret
        exact ⟨rfl, hb0⟩
    · by_cases hbig : 100 < l.length
      · go_wp2_with fail
        go_ret
        exact ⟨rfl, hb0⟩
      · by_cases hby : 60000 < s
        · go_wp2_with fail
          go_ret
          exact ⟨rfl, hb0⟩
        · clear hs hs2
          go_wp2_with fail
          refine (new_any ((Lie.start w).of_below hb0)).mono ?_
          rintro e w1 ⟨rfl, s1⟩
          generalize w0.heap.size + 1 = nb at *
          unfold ptr
          have S1 : RowInv w nb l 0 (.slice none 0 0) w1 := s1.nil_row 25 3
          have h300 : l.length ≤ 100 := by omega
          clear hb0 hs0 s1 hbig hby hk2
          go_wp2_with fail
          go_loopw [10, 11] (fun v i wr => ∃ (k : Nat) (B : Option Addr) (d : Nat), k ≤ l.length ∧ i = .int .i64 k ∧ v = .slice B (okL (l.take k)).length d ∧ RowInv w nb l k (.slice B (okL (l.take k)).length d) wr) (fun _ i _ => l.length - (intOf i).toNat)
          case atStart => exact ⟨0, none, 0, by omega, rfl, rfl, S1⟩
          case round =>
            obtain ⟨k, B, d, hk, rfl, rfl, hS⟩ := hrel
            by_cases hlt : k < l.length
            · have HS := hide hS
              obtain ⟨bl, ol, rfl, hbl, q0, q1, q2⟩ := rd_pk (HR.out.below hS.below) k hlt
              have hpk := HOK.out _ (List.getElem_mem hlt)
              generalize hP : l[k] = P at *
              have HP := hide hP
              clear hS hP
              have hlen := okL_len (l.take k)
              rw [List.length_take] at hlen
              have hsm := hpk.2
              unfold maxLen at hsm
              go_wp2_with fail
              refine (send_any HS.out 1 (some nb) (okL (l.take k)) Cuts.none rfl P hpk.1).mono ?_
              rintro e w2 ⟨rfl, s2⟩
              have R2 := HR.out.below s2.below
              rw [← HP.out] at s2 ⊢
              obtain ⟨bl', ol', hbo, hbl2, r0, r1, r2⟩ := rd_pk R2 k hlt
              injection hbo with hbo
              injection hbo with e1 e2
              subst e1 e2
              by_cases hsz : l[k].data.size ≤ 8192
              · have ek : sendOk (some nb) (okL (l.take k)) l[k] = true := by simp [sendOk, hsz]; omega
                have et : sendTo (some nb) (okL (l.take k)) Cuts.none l[k] = okL (l.take (k + 1)) := by
                  rw [take_snoc l k hlt, okL_snoc, if_pos hsz]
                  unfold sendTo
                  rw [if_pos ⟨ek, rfl⟩]
                have et2 : okL (l.take (k + 1)) = okL (l.take k) ++ [l[k]] := by rw [take_snoc l k hlt, okL_snoc, if_pos hsz]
                rw [et] at s2
                simp only [List.set] at s2
                rw [ek]
                have hsz' : (l[k].data.size : Int) ≤ 8192 := by omega
                have S2 := hide s2
                have ET := hide et2
                clear s2 et et2 ek R2 hsz
                generalize hP : l[k] = P at *
                have HP := hide hP
                clear hP
                have OWN : Hid (w2.ownsRow w.heap.size 25 3 (.slice B (okL (l.take k)).length d) (okL (l.take k)).length ((okL (l.take k)).flatMap pkCells)) := S2.out.get 0 rfl
                have hbl3 := S2.out.base_le
                go_wp2_with (at_builtin; refine wpList_append1 rfl (.tmp 62) (.tmp 67) 22 rfl w.heap.size 25 i0 _ 3 32 Try.underlying22 hinf hz0 hz1 hz2 rfl (by decide) (.slice B (okL (l.take k)).length d) _ _ (by simp [Act.eval]) OWN.out (pkCells P) (by simp [Act.eval]) rfl (pk_oneCell P) (by omega) (by omega) hbl3 ?_; intro v' w3 own' t' new'; obtain ⟨B', d', rfl⟩ := (Rd.of_own own').shape)
                go_roundw
                case rel =>
                  have e2 := ET.out
                  have e3 : (okL (l.take k)).length + 1 = (okL (l.take (k + 1))).length := by rw [e2]; simp
                  rw [e3] at own' new' ⊢
                  refine ⟨k + 1, B', d', by omega, by go_num, rfl, ?_⟩
                  exact S2.out.step 0 rfl (t' := row w.heap.size 25 3 (.slice B' (okL (l.take (k + 1))).length d') (okL (l.take (k + 1))).length ((okL (l.take (k + 1))).flatMap pkCells)) t' (by rw [e2] at own' ⊢; simpa [row] using own') (fun g hg => new' g hg)
                case measure => simp [intOf]; omega
              · have ek : sendOk (some nb) (okL (l.take k)) l[k] = false := by simp [sendOk, hsz]
                have et : sendTo (some nb) (okL (l.take k)) Cuts.none l[k] = okL (l.take (k + 1)) := by
                  rw [take_snoc l k hlt, okL_snoc, if_neg hsz]
                  unfold sendTo
                  rw [ek]
                  rfl
                have et2 : okL (l.take (k + 1)) = okL (l.take k) := by rw [take_snoc l k hlt, okL_snoc, if_neg hsz]
                rw [et] at s2
                simp only [List.set] at s2
                rw [ek]
                have hsz' : ¬ (l[k].data.size : Int) ≤ 8192 := by omega
                have S2 := hide s2
                have ET := hide et2
                clear s2 et et2 ek R2 hsz
                generalize hP : l[k] = P at *
                clear hP
                go_wp2_with fail
                go_roundw
                case rel =>
                  refine ⟨k + 1, B, d, by omega, by go_num, by rw [ET.out], ?_⟩
                  have := S2.out
                  unfold RowInv
                  rw [ET.out] at this ⊢
                  exact this
                case measure => simp [intOf]; omega
            · obtain rfl : k = l.length := by omega
              rw [List.take_length] at hS ⊢
              unfold RowInv at hS
              rw [List.take_length] at hS
              have hsl := okL_len l
              generalize okL l = ss at *
              have Z0 : CutInv w nb ss (.slice B ss.length d) 0 wr := ⟨Cuts.none, fun _ _ => rfl, Nat.le_refl _, hS⟩
              clear hS S1
              go_wp2_with fail
              obtain ⟨wo, rfl⟩ : ∃ wo : World, wo = wr := ⟨_, rfl⟩
              go_loopw [12] (fun i wr => ∃ k : Nat, k ≤ l.length ∧ i = .int .i64 k ∧ CutInv w nb ss (.slice B ss.length d) k wr) (fun i _ => l.length - (intOf i).toNat)
              case atStart => exact ⟨0, by omega, rfl, Z0⟩
              case round =>
                obtain ⟨k, hk, rfl, hZ⟩ := hrel
                by_cases hlt : k < l.length ∧ cut = true
                · obtain ⟨hlt, rfl⟩ := hlt
                  obtain ⟨C, hC, hCn, hS⟩ := hZ
                  have HS := hide hS
                  have HC := hide hC
                  obtain ⟨bl, ol, rfl, hbl, q0, q1, q2⟩ := rd_pk (HR.out.below hS.below) k hlt
                  have hpk := HOK.out _ (List.getElem_mem hlt)
                  have hki : (k : Int) < (l.length : Int) := by omega
                  generalize hP : l[k] = P at *
                  have HPP := hide hP
                  clear hS hC q2 Z0 hP
                  go_wp2_with fail
                  obtain ⟨wp, hwp⟩ : ∃ wp : World, wp = wr.drew := ⟨_, rfl⟩
                  have HWP := hide hwp
                  clear hwp
                  go_still_tail 11, (by kernel_rfl)
                  change wpList _ _ _ _ _ wr.drew
                  rw [← HWP.out]
                  go_wp2_with fail
                  refine (cut_any (show Lie w.heap.size w wp _ by rw [HWP.out]; exact HS.out.drew) 1 (some nb) ss C rfl P.from_ P.to_ true (by unfold maxLen; omega) hpk.1.1 hpk.1.2).mono ?_
                  rintro e w5 ⟨rfl, s5⟩
                  have S5 := hide s5
                  obtain ⟨bl', ol', hbo, hbl2, r0, r1, r2⟩ := rd_pk (HR.out.below s5.below) k hlt
                  injection hbo with hbo
                  injection hbo with e1 e2
                  subst e1 e2
                  have hP : l[k] = P := HPP.out
                  rw [hP] at r0 r1
                  clear s5 HWP hP r2
                  go_wp2_with fail
                  obtain ⟨wq, hwq⟩ : ∃ wq : World, wq = w5.drew := ⟨_, rfl⟩
                  have HWQ := hide hwq
                  clear hwq
                  go_still_tail 11, (by kernel_rfl)
                  change wpList _ _ _ _ _ w5.drew
                  rw [← HWQ.out]
                  go_wp2_with fail
                  refine (cut_any (show Lie w.heap.size w wq _ by rw [HWQ.out]; exact S5.out.drew) 1 (some nb) ss (C.set (lo P.from_ P.to_) (hi P.from_ P.to_) true) rfl P.to_ P.from_ false (by unfold maxLen; simp only [Cuts.set]; omega) hpk.1.2 hpk.1.1).mono ?_
                  rintro e w6 ⟨rfl, s6⟩
                  have Z6 : CutInv w nb ss (.slice B ss.length d) (k + 1) w6 := ⟨_, fun x y => cuts_twice C HC.out _ _ x y, by simp only [Cuts.set]; omega, s6⟩
                  clear s6 S5 HS HC HWQ
                  go_wp2_with fail
                  go_roundw
                  case rel => exact ⟨k + 1, by omega, by go_num, Z6⟩
                  case measure => simp [intOf]; omega
                · obtain ⟨C, hC, hCn, hS⟩ := hZ
                  have HS := hide hS
                  have HC := hide hC
                  have hkn : (k : Int) < (l.length : Int) → cut = false := fun h => by
                    cases cut with
                    | true => exact absurd ⟨by omega, rfl⟩ hlt
                    | false => rfl
                  clear hS hC Z0 hlt
                  have hway : (k < l.length ∧ cut = false) ∨ ¬ k < l.length := by
                    by_cases hk2 : k < l.length
                    · exact .inl ⟨hk2, hkn (by omega)⟩
                    · exact .inr hk2
                  clear hkn
                  rcases hway with ⟨hk2, rfl⟩ | hk2
                  all_goals
                    go_wp2_with fail
                    refine (twin_any HS.out 1 (some nb) ss C rfl (by omega)).mono ?_
                    rintro e w5 ⟨o, ho, rfl, s5⟩
                    obtain ⟨tb, rfl⟩ := Option.isSome_iff_exists.1 ho
                    unfold ptr
                    have S5 := hide s5
                    clear s5 HS ho
                    go_wp2_with fail
                    obtain ⟨wo2, rfl⟩ : ∃ wo2 : World, wo2 = w5 := ⟨_, rfl⟩
                    have T0 : TwInv w nb tb ss (.slice B ss.length d) C 0 wo2 := S5.out
                    clear S5
                    go_loopw [14] (fun i wr => ∃ k : Nat, k ≤ ss.length ∧ i = .int .i64 k ∧ TwInv w nb tb ss (.slice B ss.length d) C k wr) (fun i _ => ss.length - (intOf i).toNat)
                    case atStart => exact ⟨0, by omega, rfl, T0⟩
                    case round =>
                      obtain ⟨k2, hk3, rfl, hS⟩ := hrel
                      have HS := hide hS
                      clear hS T0
                      by_cases hlt2 : k2 < ss.length
                      · go_wp2_with fail
                        refine (come_any HS.out 0 (some tb) (restOf false ss k2) C rfl 0 (by rw [rest_len _ _ _ hk3]; omega)).mono ?_
                        rintro e w6 ⟨rfl, s6⟩
                        obtain ⟨c1, c2⟩ := rest_first ss k2 hlt2
                        rw [comeOf_all C HC.out, ← comeOf_all Cuts.none (fun _ _ => rfl), c1, told_some]
                        rw [c2] at s6
                        simp only [List.set] at s6
                        have hz := s6.get 1 rfl
                        obtain ⟨b, o, rfl, hbl, q0, q1, q2⟩ := rd_pk (Rd.of_own hz) k2 hlt2
                        have q0' := (World.cell?_alloc_lt _ (.cells #[.int .i64 ss[k2].from_, .int .i64 ss[k2].to_, .string ss[k2].data] 25) _ hbl).trans q0
                        have q1' := (World.cell?_alloc_lt _ (.cells #[.int .i64 ss[k2].from_, .int .i64 ss[k2].to_, .string ss[k2].data] 25) _ hbl).trans q1
                        have q2' := (World.cell?_alloc_lt _ (.cells #[.int .i64 ss[k2].from_, .int .i64 ss[k2].to_, .string ss[k2].data] 25) _ hbl).trans q2
                        have S6 := hide s6
                        have hne := fun w => run_neq_pk_self ss[k2] w
                        have hki : (k2 : Int) < (ss.length : Int) := by omega
                        clear c1 c2 s6 hz q0 q1 q2
                        generalize ss[k2] = P at *
                        go_wp2_with fail
                        go_quiet (fail)
                        go_wp2_with fail
                        go_roundw
                        case rel => exact ⟨k2 + 1, by omega, by go_num, (S6.out.skip _).drewN _⟩
                        case measure => simp [intOf]; omega
                      · obtain rfl : k2 = ss.length := by omega
                        have he : restOf false ss ss.length = [] := List.eq_nil_of_length_eq_zero (by rw [rest_len _ _ _ (Nat.le_refl _)]; omega)
                        have U0 : AskInv w nb tb ss.length C ss (.slice B ss.length d) wr := ⟨Nat.le_refl _, by
                          have := HS.out
                          unfold TwInv at this
                          rw [he] at this
                          exact this⟩
                        clear HS he
                        go_wp2_with fail
                        obtain ⟨wo3, rfl⟩ : ∃ wo3 : World, wo3 = wr := ⟨_, rfl⟩
                        go_loopw [10, 17] (fun v i wr => ∃ (k : Nat) (os : List Pk) (A : Option Addr) (c : Nat), k ≤ ks.length ∧ i = .int .i64 k ∧ v = .slice A os.length c ∧ AskInv w nb tb ss.length C os (.slice A os.length c) wr) (fun _ i _ => ks.length - (intOf i).toNat)
                        case atStart => exact ⟨0, ss, B, d, by omega, rfl, rfl, U0⟩
                        case round =>
                          clear U0
                          obtain ⟨k4, os, A, c, hk4, rfl, rfl, hlen, hS⟩ := hrel
                          by_cases hgo : k4 < ks.length ∧ 0 < os.length
                          · obtain ⟨hlt4, hos⟩ := hgo
                            have own := hS.get 1 rfl
                            obtain ⟨g, cap, hv, hbg, hgl⟩ := World.ownsRow.form (h := own) hos
                            injection hv with e1 _ e3
                            subst e1 e3
                            have HS := hide hS
                            obtain ⟨ba, oa, rfl, hba, hca⟩ := (HA.out.below hS.below).cells (by omega)
                            have ca := hca k4 (.int .i64 ks[k4]) (by rw [List.getElem?_map, List.getElem?_eq_getElem hlt4]; rfl)
                            have he := at_eq ks[k4] os.length hos (by omega)
                            have hj := at_lt ks[k4] os.length hos
                            generalize ks[k4] = n at *
                            obtain ⟨j, hjj⟩ : ∃ j, j = at_ n os.length := ⟨_, rfl⟩
                            rw [← hjj] at he hj
                            have hki : (k4 : Int) < (ks.length : Int) := by omega
                            have hkj : (j : Int) < (os.length : Int) := by omega
                            have HJ := hide hjj
                            have HO := hide own
                            clear hS hca own hjj
                            go_wp2_with fail
                            refine (come_any HS.out 2 (some nb) os C rfl n (by omega)).mono ?_
                            rintro e w6 ⟨rfl, s6⟩
                            have hlost : lostTo os n = os.eraseIdx j := by unfold lostTo; rw [← HJ.out]
                            rw [comeOf_all C HC.out, ← HJ.out, List.getElem?_eq_getElem hj, told_some]
                            rw [hlost] at s6
                            simp only [List.set] at s6
                            have hz := s6.get 1 rfl
                            obtain ⟨b, o, hbo, hbl, q0, q1, q2⟩ := rd_pk (Rd.of_own hz) j hj
                            injection hbo with hbo
                            injection hbo with e1 e2
                            subst e1 e2
                            rw [Nat.zero_add] at q0 q1 q2
                            have q0' := (World.cell?_alloc_lt _ (.cells #[.int .i64 os[j].from_, .int .i64 os[j].to_, .string os[j].data] 25) _ hbl).trans q0
                            have q1' := (World.cell?_alloc_lt _ (.cells #[.int .i64 os[j].from_, .int .i64 os[j].to_, .string os[j].data] 25) _ hbl).trans q1
                            have q2' := (World.cell?_alloc_lt _ (.cells #[.int .i64 os[j].from_, .int .i64 os[j].to_, .string os[j].data] 25) _ hbl).trans q2
                            have S6 := hide s6
                            have hne := fun w => run_neq_pk_self os[j] w
                            clear s6 hz q0 q1 q2 hlost
                            generalize os[j] = P at *
                            go_wp2_with fail
                            go_quiet (fail)
                            go_wp2_with fail
                            refine name_code fun W hW => ?_
                            have s7 := (S6.out.skip (.cells #[.int .i64 P.from_, .int .i64 P.to_, .string P.data] 25)).drewN nq
                            rw [← hW] at s7
                            have S7 := hide s7
                            have own7 := s7.get 1 rfl
                            have hb7 := s7.base_le
                            have RH := rd_head own7 j (by omega)
                            obtain ⟨A2, hA2, RT, hA2b⟩ := rd_tail own7 j hj
                            have hic : (j : Int) + 1 ≤ (os.length : Int) := by omega
                            have hcap := own_cap own7
                            have hcm := hcap.2
                            unfold maxLen at hcm
                            have hjc : j ≤ c := by omega
                            have hjc1 : j + 1 ≤ c := by omega
                            have RHH := hide RH
                            have RTT := hide RT
                            have A2B := hide hA2b
                            have hw7 : g < W.heap.size := (ownsRow_base own7 rfl).2
                            clear hW S6 s7 own7 RH RT hA2b q0' q1' q2'
                            have b1 : 0 + j ≤ 1000000 := by omega
                            have b2 : 0 + j + (os.length - (j + 1)) ≤ 1000000 := by omega
                            have b3 : w.heap.size ≤ (W.alloc (.cells #[] 25)).heap.size := by simp; omega
                            have b4 : (32 : Nat) ≤ 1000 := by omega
                            have g1 : (j : Int) + 1 ≤ 9223372036854775807 := by omega
                            have g2 : (0 : Int) ≤ (j : Int) + 1 := by omega
                            have g3 : ((j : Int) + 1).toNat = j + 1 := by omega
                            have tW : Turn (fun _ => False) W (W.alloc (.cells #[] 25)) := (Turn.refl _ W).alloc _
                            have hgne : W.heap.size ≠ g := by omega
                            have RH8 := hide (RHH.out.turn tW (fun _ _ _ h => h))
                            have RT8 := hide (RTT.out.turn tW (fun _ _ _ h => h))
                            have O8 := hide (own_laid W w.heap.size 25 3 hb7)
                            have X1 := hide (fun u (hu : u ∈ (os.flatMap pkCells).take (j * 3)) => pks_oneCell os u (List.mem_of_mem_take hu))
                            have X2 := hide (fun u (hu : u ∈ (os.flatMap pkCells).drop ((j + 1) * 3)) => pks_oneCell os u (List.mem_of_mem_drop hu))
                            have A2G := hide (fun w8 (t8 : Turn (fun k => (Value.slice (some ⟨W.heap.size, 0, none⟩) 0 0).ownBlock = some k) (W.alloc (.cells #[] 25)) w8) => RT8.out.turn t8 (fun g' _ h1 h2 => by
                              rw [A2B.out] at h1
                              injection h1 with h1
                              injection h2 with h2
                              exact hgne (h2.trans h1.symm)))
                            have hwr : IntKind.i64.wrap ((j : Int) + 1) = (j : Int) + 1 := IntWalk.i64_in _ (by omega)
                            go_region_law (first
                              | (refine step_appendRd rfl (.tmp 168) (.tmp 171) 22 rfl w.heap.size 25 i0 _ 3 32 Try.underlying22 hinf hz0 hz1 hz2 rfl (by decide) (.slice (some ⟨W.heap.size, 0, none⟩) 0 0) 0 [] (by simp [Act.eval]) (by exact O8.out) (.slice (some ⟨g, 0, none⟩) j c) j ((os.flatMap pkCells).take (j * 3)) (by simp [Act.eval]) (by exact RH8.out) X1.out b1 b4 b3 ?_; intro A1 c1 w8 own8 t8 new8; have t8' : Turn (fun k => (Value.slice (some ⟨W.heap.size, 0, none⟩) 0 0).ownBlock = some k) (W.alloc (.cells #[] 25)) w8 := ⟨t8.os, t8.tape, t8.output, t8.size, t8.block⟩; have RT9 := hide (A2G.out _ t8'); have b5 : w.heap.size ≤ w8.heap.size := Nat.le_trans b3 t8'.size)
                              | (refine step_appendRd rfl (.tmp 172) (.tmp 176) 22 rfl w.heap.size 25 i0 _ 3 32 Try.underlying22 hinf hz0 hz1 hz2 rfl (by decide) (.slice A1 (0 + j) c1) (0 + j) ([] ++ (os.flatMap pkCells).take (j * 3)) (by simp [Act.eval]) (by exact own8) (.slice (some A2) (os.length - (j + 1)) (c - (j + 1))) (os.length - (j + 1)) ((os.flatMap pkCells).drop ((j + 1) * 3)) (by simp [Act.eval]) (by exact RT9.out) X2.out b2 b4 b5 ?_; intro A3 c3 w9 own9 t9 new9))
                            all_goals
                              clear hwr
                              have q8 : ∀ g', (Value.slice A1 (0 + j) c1).ownBlock = some g' → W.heap.size ≤ g' := fun g' h => by
                                rcases new8 g' h with h1 | h1
                                · injection h1 with h1; exact Nat.le_of_eq h1
                                · exact Nat.le_trans tW.size h1
                              have q9 : ∀ g', (Value.slice A3 (0 + j + (os.length - (j + 1))) c3).ownBlock = some g' → W.heap.size ≤ g' := fun g' h => by
                                rcases new9 g' h with h1 | h1
                                · exact q8 g' h1
                                · exact Nat.le_trans (Nat.le_trans tW.size t8'.size) h1
                              have T9 : Turn (fun _ => False) W w9 := (tW.step t8' (fun k hk h1 => Nat.lt_irrefl _ (Nat.lt_of_lt_of_le hk (Nat.le_of_eq (Option.some.inj h1))))).step t9 (fun k hk h1 => Nat.lt_irrefl _ (Nat.lt_of_lt_of_le hk (q8 k h1)))
                              have hel : (os.eraseIdx j).length = os.length - 1 := List.length_eraseIdx_of_lt hj
                              have hel2 : 0 + j + (os.length - (j + 1)) = (os.eraseIdx j).length := by omega
                              rw [hel2] at own9 q9
                              have hfl : [] ++ (os.flatMap pkCells).take (j * 3) ++ (os.flatMap pkCells).drop ((j + 1) * 3) = (os.eraseIdx j).flatMap pkCells := by rw [flat_erase]; simp
                              rw [hfl] at own9
                              have S9 : AskInv w nb tb ss.length C (os.eraseIdx j) (.slice A3 (os.eraseIdx j).length c3) w9 :=
                                ⟨by omega, S7.out.step 1 rfl (t' := row w.heap.size 25 3 (.slice A3 (os.eraseIdx j).length c3) (os.eraseIdx j).length ((os.eraseIdx j).flatMap pkCells)) (T9.mono fun _ _ h => h.elim) own9 (fun g' h => .inr (q9 g' h))⟩
                              have hel3 : j + (os.length - (j + 1)) = (os.eraseIdx j).length := by omega
                              rw [hel3]
                              clear hel hel2 hel3 hfl own9 q8 q9 T9
                              go_wp2_with fail
                              go_roundw
                              case rel => exact ⟨k4 + 1, os.eraseIdx j, A3, c3, by omega, by go_num, rfl, S9⟩
                              case measure => simp [intOf]; omega
                          · have HS := hide hS
                            have hno : k4 < ks.length → os.length = 0 := fun h => by omega
                            clear hS hgo
                            by_cases hlt4 : k4 < ks.length
                            · have h0 := hno hlt4
                              obtain rfl : os = [] := List.eq_nil_of_length_eq_zero h0
                              have h0' : ([] : List Pk).length = 0 := rfl
                              have hki : (k4 : Int) < (ks.length : Int) := by omega
                              rw [h0']
                              clear hno h0 h0'
                              go_wp2_with fail
                              refine (waiting_any HS.out 2 (some nb) [] C rfl).mono ?_
                              rintro e w' ⟨rfl, rfl⟩
                              go_wp2_with fail
                              refine (waiting_any HS.out 0 (some tb) [] C rfl).mono ?_
                              rintro e w' ⟨rfl, rfl⟩
                              go_wp2_with fail
                              go_ret
                              exact ⟨rfl, HS.out.below⟩
                            · clear hno
                              go_wp2_with fail
                              refine (waiting_any HS.out 2 (some nb) os C rfl).mono ?_
                              rintro e w' ⟨rfl, rfl⟩
                              go_wp2_with fail
                              refine (waiting_any HS.out 0 (some tb) [] C rfl).mono ?_
                              rintro e w' ⟨rfl, rfl⟩
                              go_wp2_with fail
                              go_ret
                              exact ⟨rfl, HS.out.below⟩
end Go.Proofs.Ytniiikgkeiomoaa
