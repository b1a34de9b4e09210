/-
  MemValues: the walk.
-/
import Derived.Test.YtcaeechlpadboaaVals0
import Derived.Test.YtcaeechlpadboaaAwake
import Derived.Laws.BytesArg
import Derived.Laws.IdiomStrings
namespace Go.Proofs.Ytcaeechlpadboaa
open Go.RowKit Go.Maps Go.Shelf
attribute [local go_sem] Oper.semAt_some

abbrev bc (z : Int) : List Value := [.int .u8 z]
theorem bc_len (z : Int) : (bc z).length = 1 := rfl
/-- The bytes as a text. -/
theorem conv_any (Y : Option Addr) (bs : List Int) (cy : Nat) (w : World) (hy : Rd w 1 (.slice Y bs.length cy) bs.length (bs.flatMap bc)) :
    ∃ S : ByteArray, ∀ W, Below w.heap.size w W → (convert 56 9 (.slice Y bs.length cy)).run Try.prog W = .ok (.string S) W := by
  cases Y with
  | none => exact ⟨ByteArray.empty, fun W _ => run_convert_bytes_nil W 56 5 Try.underlying56 Try.underlying5 _ _ 9 Try.underlying9⟩
  | some a =>
    by_cases h0 : 0 < bs.length
    · obtain ⟨b, o, hA, hb, hc⟩ := hy.cells h0
      injection hA with hA
      subst hA
      refine ⟨_, fun W hW => run_convert_bytes_arg W 56 5 Try.underlying56 Try.underlying5 b o bs.length cy bs rfl (fun i hi => ?_) 9 Try.underlying9⟩
      have h1 := hc (i * 1 + 0) (.int .u8 bs[i]) (by rw [flat_at bc_len bs i 0 hi (by omega)]; rfl)
      have e : W.cell? ⟨b, o + i, none⟩ = w.cell? ⟨b, o + i, none⟩ := (show Turn (fun _ => False) w W from Turn.of_below hW).cell (p := ⟨b, o + i, none⟩) hb (fun h => h)
      rw [e]
      simpa [hi] using h1
    · obtain rfl : bs = [] := List.eq_nil_of_length_eq_zero (by omega)
      exact ⟨⟨#[]⟩, fun W _ => run_convert_bytes_back W 56 9 5 a cy [] Try.underlying56 Try.underlying5 Try.underlying9 (fun j hj => by simp at hj)⟩

set_option maxRecDepth 100000 in
set_option maxHeartbeats 8000000 in
theorem values_any (v : Value) (l : List ByteArray) (y : Value) (bs : List Int) (w : World) (hl : Rd w 1 v l.length (l.flatMap sc)) (hmax : l.length ≤ maxLen) (hy : Rd w 1 y bs.length (bs.flatMap bc)) : Calls Try.prog 8 #[v, y] w fun e w' => e = .returned (.bool true) ∧ Below w.heap.size w w' := by
  have HL := hide hl
  obtain ⟨w0, rfl⟩ : ∃ w0, w0 = w := ⟨_, rfl⟩
  obtain ⟨B, hB⟩ : ∃ B, B = w0.heap.size := ⟨_, rfl⟩
  have HB := hide hB
  have S0 : Hid (Lie B w0 w0 []) := hide (hB ▸ Lie.start w0)
  rw [← hB]
  clear hB
  obtain ⟨A, c, rfl⟩ := hl.shape
  obtain ⟨Y, cy, rfl⟩ := hy.shape
  obtain ⟨S, hS⟩ := conv_any Y bs cy w0 hy
  rw [← HB.out] at hS
  have CV := hide hS
  obtain ⟨n, hnn⟩ : ∃ n, n = l.length := ⟨_, rfl⟩
  have HN := hide hnn
  rw [← hnn] at hmax ⊢
  unfold maxLen at hmax
  generalize bs.length = yn at *
  clear hl hnn hy hS
  go_enter Try.func8, Try.ntmps8
  go_wp2_with fail
  refine (awake_L S0.out).mono ?_
  rintro e w1 ⟨rfl, S1⟩
  clear S0
  go_wp2_with fail
  go_loop [5, 6] (fun s i => ∃ (k : Nat) (m : Int), k ≤ n ∧ k ≤ 101 ∧ i = .int .i64 k ∧ s = .int .i64 m) (fun _ i => n - (intOf i).toNat)
  case atStart => exact ⟨0, yn, by omega, by omega, rfl, rfl⟩
  case round =>
    obtain ⟨k, m, hk, hk3, rfl, rfl⟩ := hrel
    by_cases hlt : k < n ∧ k ≤ 100
    · obtain ⟨hlt, h3⟩ := hlt
      obtain ⟨b, o, rfl, hb, hc⟩ := txt_at l (HL.out.below (HB.out ▸ S1.out.below)) (by have := HN.out; omega)
      have k1 := hc k (by have := HN.out; omega)
      obtain ⟨s, hs⟩ : ∃ s, s = l[k]'(by have := HN.out; omega) := ⟨_, rfl⟩
      rw [← hs] at k1
      clear hc hs
      by_cases hsz : 20001 < s.size
      · go_wp2_with fail
        go_round
        case rel => exact ⟨k + 1, _, by omega, by omega, by go_num, rfl⟩
        case measure => simp [intOf]; omega
      · go_wp2_with fail
        go_round
        case rel => exact ⟨k + 1, _, by omega, by omega, by go_num, rfl⟩
        case measure => simp [intOf]; omega
    · by_cases h1 : 100 < n
      · go_wp2_with fail
        all_goals exact bodyPost_ret (results_tmp rfl _ _ _) rfl ⟨rfl, S1.out.below⟩
      · obtain rfl : k = n := by omega
        by_cases hbm : 20000 < m
        · go_wp2_with fail
          all_goals exact bodyPost_ret (results_tmp rfl _ _ _) rfl ⟨rfl, S1.out.below⟩
        · clear hlt hk
          go_wp2_with fail
          refine (MP.new_tb S1.out).mono ?_
          rintro e w2 ⟨Ta, va, rfl, S2⟩
          clear S1
          go_wp2_with fail
          go_loopw [8] (fun i wr => ∃ q : Nat, q ≤ k ∧ i = .int .i64 q ∧ ∃ v', Lie B w0 wr (MP.tb B Ta v' false (tabV l (Y, yn, cy) q) ++ [])) (fun i _ => k - (intOf i).toNat)
          case atStart => exact ⟨0, by omega, rfl, va, S2.out⟩
          case round =>
            clear S2
            obtain ⟨q, hq, rfl, v3, hL⟩ := hrel
            have H := hide hL
            by_cases hlt : q < k
            · have hql : q < l.length := by have := HN.out; omega
              obtain ⟨b, o, rfl, hb, hc⟩ := txt_at l (HL.out.below (HB.out ▸ hL.below)) (by omega)
              have q1 := hc q hql
              have HTS : Hid (tabV l (Y, yn, cy) (q + 1) = put (tabV l (Y, yn, cy) q) l[q] ((q : Int), (Y, yn, cy))) := hide (by rw [tabV, List.getElem?_eq_getElem hql]; rfl)
              have OK := hide ((tabV_ok l (Y, yn, cy) q).mono (m := 1000) (by omega))
              generalize l[q] = s1 at *
              clear hc hL
              go_wp2_with fail
              refine (MP.set_tb s1 ((q : Int), (Y, yn, cy)) OK.out (by omega) H.out).mono ?_
              rintro e w4 ⟨rfl, v4, S6⟩
              rw [← HTS.out] at S6
              go_wp2_with fail
              go_roundw
              case rel => exact ⟨q + 1, by omega, by go_num, v4, S6.out⟩
              case measure => simp [intOf]; omega
            · obtain rfl : q = k := by omega
              have OK : Hid (MP.Ok (tabV l (Y, yn, cy) q) 100) := hide ((tabV_ok l (Y, yn, cy) q).mono (by omega))
              have GET : Hid (∀ i (hi : i < l.length), ∃ p : Nat, ∃ h : p < l.length, MP.get (tabV l (Y, yn, cy) q) l[i] = (((p : Int), (Y, yn, cy)), true) ∧ l[p] = l[i]) := hide (fun i hi => by rw [HN.out]; exact tabV_get l _ i hi)
              have END : Hid (delV l (tabV l (Y, yn, cy) q) q = []) := hide (by rw [HN.out]; exact delV_end l _)
              generalize tabV l (Y, yn, cy) q = xs at *
              clear hL hlt
              go_wp2_with fail
              refine (MP.twin_tb OK.out (by omega) H.out).mono ?_
              rintro e w5 ⟨Tt, vt, rfl, S5⟩
              clear H
              go_wp2_with fail
              go_loopw [10] (fun i wr => ∃ j : Nat, j ≤ q ∧ i = .int .i64 j ∧ ∃ v', Lie B w0 wr (MP.tb B Tt vt false xs ++ MP.tb B Ta v' false (delV l xs j))) (fun i _ => q - (intOf i).toNat)
              case atStart => exact ⟨0, by omega, rfl, v3, S5.out⟩
              case round =>
                clear S5
                obtain ⟨j, hj, rfl, v6, hL⟩ := hrel
                have H := hide hL
                by_cases hlt : j < q
                · have hjl : j < l.length := by have := HN.out; omega
                  obtain ⟨b, o, rfl, hb, hc⟩ := txt_at l HL.out (by omega)
                  obtain ⟨p, hp, hg, hpj⟩ := GET.out j hjl
                  have HCC : Hid (∀ W, Below B w0 W → W.cell? ⟨b, o + j, none⟩ = some (.string l[j]) ∧ W.cell? ⟨b, o + p, none⟩ = some (.string l[j])) := hide (fun W hW => by
                    obtain ⟨b', o', hbo, _, hc'⟩ := txt_at l (HL.out.below (HB.out ▸ hW)) (by omega)
                    injection hbo with hbo
                    injection hbo with hb1 hb2
                    subst hb1 hb2
                    exact ⟨hc' j hjl, by rw [← hpj]; exact hc' p hp⟩)
                  have DEL : Hid (delV l xs (j + 1) = del (delV l xs j) l[j]) := hide (by rw [delV, List.getElem?_eq_getElem hjl]; rfl)
                  have HG := hide hg
                  have OKD := hide (delV_ok l xs 100 OK.out j)
                  have hpq : p < q := by have := HN.out; omega
                  generalize l[j] = s1 at *
                  obtain ⟨q1, _⟩ := HCC.out wr hL.below
                  clear hc hL hg hpj
                  go_wp2_with fail
                  refine (MP.get_tb s1 OK.out (by omega) H.out).mono ?_
                  rintro e w7 ⟨rfl, S7⟩
                  rw [HG.out]
                  clear q1
                  have S8 : Hid (Lie B w0 (w7.alloc (.cells #[.int .i64 p, .slice Y yn cy] 60)) (MP.rbx w7.heap.size ((p : Int), (Y, yn, cy)) :: (MP.tb B Tt vt false xs ++ MP.tb B Ta v6 false (delV l xs j)))) := hide (S7.out.alloc _)
                  obtain ⟨w8, hw8⟩ : ∃ w8, w8 = w7.alloc (.cells #[.int .i64 p, .slice Y yn cy] 60) := ⟨_, rfl⟩
                  rw [← hw8] at S8
                  have HW8 := hide hw8
                  obtain ⟨pb, hpb⟩ : ∃ pb, pb = w7.heap.size := ⟨_, rfl⟩
                  rw [← hpb] at S8
                  have HPB := hide hpb
                  obtain ⟨y0, y1, _, _⟩ := MP.cell2 (S8.out.get 0 rfl)
                  obtain ⟨q2, q3⟩ := HCC.out w8 S8.out.below
                  have hcv : ∀ m, (convert 56 9 (.slice Y yn cy)).run Try.prog (w8.drewN m) = .ok (.string S) (w8.drewN m) := fun m => CV.out _ (S8.out.drewN m).below
                  have e1 : (s1.toList == s1.toList) = true := by simp
                  have e2 : (S.toList == S.toList) = true := by simp
                  clear hw8 S7 hpb
                  go_wp2_with fail
                  rw [← HW8.out, ← HPB.out]
                  go_quiet (fail)
                  have S9 := hide (Lie.comm (ts := MP.tb B Tt vt false xs) (S8.out.drewN nq).pop)
                  obtain ⟨q4, _⟩ := HCC.out _ S9.out.below
                  clear S8 hcv e1 e2 y0 y1 q2 q3
                  generalize w8.drewN nq = w9 at *
                  go_wp2_with fail
                  refine (MP.del_keep s1 OKD.out (by omega) S9.out).mono ?_
                  rintro e w10 ⟨rfl, v10, S10⟩
                  rw [← DEL.out] at S10
                  have S11 := hide (Lie.comm (ts := MP.tb B Ta v10 false (delV l xs (j + 1))) S10.out)
                  clear S9 S10 q4
                  go_wp2_with fail
                  go_roundw
                  case rel => exact ⟨j + 1, by omega, by go_num, v10, S11.out⟩
                  case measure => simp [intOf]; omega
                · obtain rfl : j = q := by omega
                  rw [END.out] at hL
                  have S7 := hide (Lie.comm (ts := MP.tb B Tt vt false xs) hL)
                  clear hL H GET
                  have OK0 : MP.Ok ([] : List MP.Ent) 0 := MP.Ok.nil
                  go_wp2_with fail
                  refine (MP.len_tb OK0 (by omega) S7.out).mono ?_
                  rintro e w7 ⟨rfl, S8⟩
                  clear S7
                  go_wp2_with fail
                  refine (MP.clear_tb OK0 (by omega) S8.out).mono ?_
                  rintro e w8 ⟨rfl, v8, S9⟩
                  have S10 := hide (Lie.comm (ts := MP.tb B Ta v8 false []) S9.out)
                  clear S8 S9
                  go_wp2_with fail
                  refine (MP.clear_tb OK.out (by omega) S10.out).mono ?_
                  rintro e w9 ⟨rfl, v9, S11⟩
                  clear S10
                  go_wp2_with fail
                  refine (MP.get_tb ⟨#[]⟩ OK0 (by omega) S11.out).mono ?_
                  rintro e w10 ⟨rfl, S12⟩
                  rw [show MP.get [] ⟨#[]⟩ = ((0, none, 0, 0), false) from rfl]
                  have S13 : Hid (Lie B w0 (w10.alloc (.cells #[.int .i64 0, .slice none 0 0] 60)) (MP.tb B Tt v9 false [] ++ MP.tb B Ta v8 false [])) := hide (S12.out.alloc _).pop
                  obtain ⟨w11, hw11⟩ : ∃ w11, w11 = w10.alloc (.cells #[.int .i64 0, .slice none 0 0] 60) := ⟨_, rfl⟩
                  rw [← hw11] at S13
                  have HW11 := hide hw11
                  clear S11 S12 hw11
                  go_wp2_with fail
                  rw [← HW11.out]
                  refine (MP.len_tb OK0 (by omega) S13.out).mono ?_
                  rintro e w12 ⟨rfl, S14⟩
                  have S15 := hide (Lie.comm (ts := MP.tb B Tt v9 false []) S14.out)
                  clear S13 S14
                  go_wp2_with fail
                  refine (MP.set_tb ⟨#[113]⟩ (0, none, 0, 0) OK0 (by omega) S15.out).mono ?_
                  rintro e w13 ⟨rfl, v13, S16⟩
                  rw [show has ([] : List MP.Ent) ⟨#[113]⟩ = false from rfl]
                  have OK1 : MP.Ok (put ([] : List MP.Ent) ⟨#[113]⟩ (0, none, 0, 0)) 1 := OK0.put _ _
                  have hl1 : (put ([] : List MP.Ent) ⟨#[113]⟩ (0, none, 0, 0)).length = 1 := rfl
                  clear S15
                  go_wp2_with fail
                  refine (MP.len_tb OK1 (by omega) S16.out).mono ?_
                  rintro e w14 ⟨rfl, S17⟩
                  rw [hl1]
                  clear S16
                  go_wp2_with fail
                  exact bodyPost_ret (results_tmp rfl _ _ _) rfl ⟨rfl, S17.out.below⟩
end Go.Proofs.Ytcaeechlpadboaa
