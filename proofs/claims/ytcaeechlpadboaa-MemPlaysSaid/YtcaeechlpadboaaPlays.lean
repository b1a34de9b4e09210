/-
  MemPlays: the walk.
-/
import Derived.Test.YtcaeechlpadboaaMean
import Derived.Test.YtcaeechlpadboaaAwake
import Derived.Test.YtcaeechlpadboaaStill
import Derived.Deep.Cut
import Derived.Deep.CutRange
import Derived.Deep.RegionHeld3
namespace Go.Proofs.Ytcaeechlpadboaa
open Go.RowKit Go.Maps Go.Shelf
attribute [local go_sem] Oper.semAt_some

theorem Lie.keep1 {base : Nat} {w0 w : World} {js r : List Thing} {a : Thing} (h : Lie base w0 w (js ++ (a :: r))) : Lie base w0 w (js ++ [a]) := by
  have h1 : Lie base w0 w ((a :: r) ++ js) := Lie.comm h
  have h2 : Lie base w0 w (r ++ (js ++ [a])) := by
    have := Lie.comm (ts := [a]) (us := r ++ js) h1
    rwa [List.append_assoc] at this
  exact Lie.dropL h2
/-- The document's list and the table lie there. -/
structure PlI (B : Nat) (w0 : World) (nn : Bool) (k : Nat) (m wv : Value) (wr : World) (xs : List MS.Ent) (ws : List Pr) (js : List Thing) : Prop where
  rel : Rel ws xs
  ok : MS.Ok xs k
  sz : ∀ y ∈ xs, y.1.size ≤ 20000
  mt : Mt B nn m xs js
  lie : Lie B w0 wr (js ++ [prw B wv ws])
def PlR (B : Nat) (w0 : World) (nn : Bool) (k : Nat) (m wv : Value) (wr : World) : Prop := ∃ xs ws js, PlI B w0 nn k m wv wr xs ws js
def Begun (B : Nat) (w0 : World) (nn : Bool) (m : Value) (wr : World) : Prop := ∃ js, Mt B nn m [] js ∧ Lie B w0 wr js

set_option maxRecDepth 100000 in
set_option maxHeartbeats 8000000 in
theorem plays_any (v : Value) (l : List ActM) (kd : Int) (w : World) (hl : Rd w 4 v l.length (l.flatMap ac)) (hmax : l.length ≤ maxLen) (hk0 : 0 ≤ kd) (hk1 : kd ≤ 255) : Calls Try.prog 10 #[v, .int .u8 kd] w fun e w' => e = .returned (.bool true) ∧ Below w.heap.size w w' := by
  have HL := hide hl
  obtain ⟨w0, rfl⟩ : ∃ w0, w0 = w := ⟨_, rfl⟩
  obtain ⟨B, hB⟩ : ∃ B, B = w0.heap.size := ⟨_, rfl⟩
  have HB := hide hB
  have S0 : Hid (Lie B w0 w0 []) := hide (hB ▸ Lie.start w0)
  rw [← hB]
  clear hB
  obtain ⟨A, c, rfl⟩ := hl.shape
  obtain ⟨n, hnn⟩ : ∃ n, n = l.length := ⟨_, rfl⟩
  have HN := hide hnn
  have HMAX := hide hmax
  rw [← hnn] at hmax ⊢
  unfold maxLen at hmax
  clear hl hnn
  go_enter Try.func10, Try.ntmps10
  go_wp2_with fail
  refine (awake_L S0.out).mono ?_
  rintro e w1 ⟨rfl, S1⟩
  clear S0
  go_wp2_with fail
  rw [HN.out]
  refine (great_any (.slice A l.length c) l w1 (HL.out.below (HB.out ▸ S1.out.below)) HMAX.out).mono ?_
  rintro e w2 ⟨g, rfl, hg, t2⟩
  rw [← HN.out]
  have S2 := hide (S1.out.stay t2)
  cases g with
  | true =>
    clear hg t2
    go_wp2_with fail
    exact bodyPost_ret (results_tmp rfl _ _ _) rfl ⟨rfl, S2.out.below⟩
  | false =>
    have HG := hide (hg rfl)
    have hn2 : n ≤ 200 := by rw [HN.out]; exact (HG.out).1
    clear hg t2 S1 HMAX hmax
    go_wp2_with fail
    refine (MS.new_tb S2.out).mono ?_
    rintro e w3 ⟨T, v3, rfl, S3⟩
    clear S2
    go_upto_if 33 with fail
    obtain ⟨nn, hnn⟩ : ∃ nn : Bool, nn = (kd % 4 == 3) := ⟨_, rfl⟩
    have HNN := hide hnn
    rw [← hnn]
    clear hnn
    go_cut [5] from 33 to 33 (fun s5 wx => wx = w3 ∧ s5 = .pointer (if nn then none else some ⟨T, 0, none⟩))
    case first =>
      cases nn with
      | true =>
        go_wp2_with fail
        go_meet
        exact ⟨rfl, rfl⟩
      | false =>
        go_wp2_with fail
        go_meet
        exact ⟨rfl, rfl⟩
    case rest =>
      obtain ⟨rfl, rfl⟩ := hcut
      generalize hmp : (if nn then none else some (⟨T, 0, none⟩ : Addr)) = mp0 at *
      have HMP := hide hmp
      clear hmp
      go_upto_if 36 with fail
      go_cut [5] from 36 to 38 (fun s5 wx => ∃ mp, s5 = .pointer mp ∧ Hid (Begun B w0 nn (.pointer mp) wx))
      case first =>
        by_cases h2 : kd % 4 = 2
        · have h2b : (kd % 4 == 2) = true := beq_iff_eq.2 h2
          have hnf : nn = false := by rw [HNN.out, h2]; rfl
          have BG : Hid (Begun B w0 nn (.pointer (some ⟨wc.heap.size, 0, none⟩)) (wc.alloc (.cells #[.slice none 0 0, .bool false] 69))) := hide (by
            subst hnf
            refine ⟨_, Mt.some (T := wc.heap.size) (v := .slice none 0 0) (lent := false), ?_⟩
            exact ((S3.out.alloc (.cells #[.slice none 0 0, .bool false] 69)).push (t := MS.rw_ B (.slice none 0 0) []) (Turn.refl _ _) (World.ownsRow_nil _ _ _ _) (fun _ hk => by cases hk)).sel [0, 1] (by decide) rfl)
          clear h2 hnf
          go_wp2_with fail
          go_meet
          exact ⟨_, rfl, BG⟩
        · have h2b : (kd % 4 == 2) = false := beq_eq_false_iff_ne.2 h2
          have BG : Hid (Begun B w0 nn (.pointer mp0) wc) := hide (by
            rw [← HMP.out]
            cases nn with
            | true => exact ⟨[], Mt.none, S3.out.sel [] (by decide) rfl⟩
            | false => exact ⟨_, Mt.some (T := T) (v := v3) (lent := false), S3.out.sel [0, 1] (by decide) rfl⟩)
          clear h2
          go_wp2_with fail
          go_meet
          exact ⟨_, rfl, BG⟩
      case rest =>
        obtain ⟨mp1, rfl, BG⟩ := hcut
        clear S3 HMP HNN mp0 v3
        go_wp2_with fail
        go_loopw [5, 7, 8] (fun m wv i wr => ∃ k : Nat, k ≤ n ∧ i = .int .i64 k ∧ Hid (PlR B w0 nn k m wv wr)) (fun _ _ i _ => n - (intOf i).toNat)
        case atStart =>
          refine ⟨0, by omega, rfl, hide ?_⟩
          obtain ⟨js, hm, hL⟩ := BG.out
          exact ⟨[], [], js, Rel.nil, MS.Ok.nil, fun y hy => (by cases hy), hm, Lie.comm (ts := [prw B (.slice none 0 0) []]) (hL.push (t := prw B (.slice none 0 0) []) (Turn.refl _ _) (World.ownsRow_nil _ _ _ _) (fun _ hk => by cases hk))⟩
        case round =>
          clear BG
          obtain ⟨k, hk, rfl, HR⟩ := hrel
          obtain ⟨xs, ws, js, PI⟩ := HR.out
          obtain ⟨Aw, cw, rfl⟩ := (Rd.of_own (MS.Lie.mem PI.lie (t := prw B u7 ws) (List.mem_append_right _ (by simp)))).shape
          obtain ⟨mp, rfl⟩ : ∃ mp, u5 = .pointer mp := by
            have hm := PI.mt
            cases nn with
            | true => exact ⟨_, hm.1⟩
            | false => obtain ⟨T, _, _, e, _⟩ := hm; exact ⟨_, e⟩
          have P := hide PI
          have hwl : ws.length ≤ 200 := by have h1 := PI.rel.len; have h2 := PI.ok.hn; omega
          by_cases hlt : k < n
          · have hkl : k < l.length := by have := HN.out; omega
            obtain ⟨b, o, rfl, hb, hc⟩ := act_at l (HL.out.below (HB.out ▸ PI.lie.below)) (by omega)
            obtain ⟨q0, q1, q2, q3⟩ := hc k hkl
            have hsx := HG.out.2 _ (List.getElem_mem hkl)
            generalize l[k] = x at *
            obtain ⟨d, key, val, N⟩ := x
            obtain ⟨hsk, hsv⟩ := hsx
            simp only at q0 q1 q2 q3 hsk hsv
            obtain ⟨W1, hW1⟩ : ∃ W1, W1 = wr.alloc (.cells #[.int .i64 d, .string key, .string val, .int .i64 N] 71) := ⟨_, rfl⟩
            obtain ⟨bx, hbx⟩ : ∃ bx, bx = wr.heap.size := ⟨_, rfl⟩
            have S1 : Hid (Lie B w0 W1 (js ++ [prw B (.slice Aw ws.length cw) ws, actb bx ⟨d, key, val, N⟩])) := hide (by
              have h0 : Lie B w0 W1 ([actb bx ⟨d, key, val, N⟩] ++ (js ++ [prw B (.slice Aw ws.length cw) ws])) := by rw [hW1, hbx]; exact PI.lie.alloc _
              have h := Lie.comm h0
              rwa [List.append_assoc] at h)
            have HW1 := hide hW1
            have HBX := hide hbx
            have SK : Hid (∀ y ∈ ws, y.1.size ≤ 1000000) := hide (fun y hy => by have := PI.sz y ((PI.rel.mem y).1 hy); omega)
            clear hc PI HR hbx
            rcases (show d = 0 ∨ d = 1 ∨ d = 2 ∨ d = 3 ∨ d = 4 ∨ d = 5 ∨ d = 6 ∨ d = 7 ∨ (d ≠ 0 ∧ d ≠ 1 ∧ d ≠ 2 ∧ d ≠ 3 ∧ d ≠ 4 ∧ d ≠ 5 ∧ d ≠ 6 ∧ d ≠ 7) by omega) with rfl | rfl | rfl | rfl | rfl | rfl | rfl | rfl | ⟨h0, h1, h2, h3, h4, h5, h6, h7⟩
            · clear hW1
              go_wp2_with fail
              rw [← HW1.out, ← HBX.out]
              clear q0 q1 q2 q3
              refine (set_m key val P.out.mt P.out.ok (by omega) S1.out).mono ?_
              rintro e w4 ⟨rfl, js4, hm4, S4⟩
              obtain ⟨_, z1, z2, _⟩ := cell4 (MS.Lie.mem S4.out (t := actb bx ⟨0, key, val, N⟩) (List.mem_append_right _ (by simp)))
              go_wp2_with fail
              refine (refset_any ws key val (.slice Aw ws.length cw) w4 (Rd.of_own (MS.Lie.mem S4.out (t := prw B (.slice Aw ws.length cw) ws) (List.mem_append_right _ (by simp)))) (by omega)).mono ?_
              rintro e w5 ⟨v5, rfl, NP⟩
              obtain ⟨A5, c5, rfl⟩ := (Rd.of_own NP.1).shape
              have S5 := hide ((S4.out.behind NP).perm List.perm_middle.symm)
              clear NP z1 z2 S4
              cases nn with
              | true =>
                have hx0 : xs = [] := P.out.mt.2.1
                have HM5 : Hid (Mt B true (.pointer mp) [] js4) := hide (by rw [if_pos rfl, hx0] at hm4; exact hm4)
                have S6 := hide ((S5.out.push (t := prw B (.slice none 0 0) []) (Turn.refl _ _) (World.ownsRow_nil _ _ _ _) (fun _ hk => by cases hk)).perm List.perm_middle.symm)
                have OK5 : MS.Ok ([] : List MS.Ent) (k + 1) := MS.Ok.nil.mono (by omega)
                have SZ5 : ∀ y ∈ ([] : List MS.Ent), y.1.size ≤ 20000 := fun y hy => (by cases hy)
                clear hx0 hm4
                go_wp2_with fail
                refine (len_m HM5.out OK5 (by omega) S6.out).mono ?_
                rintro e w9 ⟨rfl, S9⟩
                have hrl : Rel ([] : List Pr) ([] : List MS.Ent) := Rel.nil
                have el : ((([] : List MS.Ent).length : Int) != (([] : List Pr).length : Int)) = false := by rw [hrl.len]; simp
                have FIN : Hid (PlR B w0 true (k + 1) (.pointer mp) (.slice none 0 0) w9) := hide ⟨([] : List MS.Ent), ([] : List Pr), js4, hrl, OK5, SZ5, HM5.out, S9.out.keep1⟩
                clear hrl S9 
                go_wp2_with fail
                go_roundw
                case rel => exact ⟨k + 1, by omega, by go_num, FIN⟩
                case measure => simp [intOf]; omega
              | false =>
                rw [P.out.rel.set_is]
                have HM5 : Hid (Mt B false (.pointer mp) (put xs key val) js4) := hide (by rw [if_neg (by decide)] at hm4; exact hm4)
                have HR5 := hide (P.out.rel.set key val)
                have OK5 := hide (P.out.ok.put key val)
                have SZ5 : Hid (∀ y ∈ put xs key val, y.1.size ≤ 20000) := hide (fun y hy => by
                  rcases (mem_put xs key val P.out.ok.hs y).1 hy with rfl | ⟨h, _⟩
                  · exact hsk
                  · exact P.out.sz y h)
                generalize put xs key val = x5 at *
                generalize (refSet ws key val).1 = w5s at *
                generalize has xs key = hb at *
                have e1 : ((!hb) != (!hb)) = false := by simp
                clear hm4
                go_wp2_with fail
                refine (len_m HM5.out OK5.out (by omega) S5.out).mono ?_
                rintro e w9 ⟨rfl, S9⟩
                have hrl : Rel w5s x5 := HR5.out
                have el : ((x5.length : Int) != (w5s.length : Int)) = false := by rw [hrl.len]; simp
                have FIN : Hid (PlR B w0 false (k + 1) (.pointer mp) (.slice A5 w5s.length c5) w9) := hide ⟨x5, w5s, js4, hrl, OK5.out, SZ5.out, HM5.out, S9.out.keep1⟩
                clear hrl S9 e1
                go_wp2_with fail
                go_roundw
                case rel => exact ⟨k + 1, by omega, by go_num, FIN⟩
                case measure => simp [intOf]; omega
            · clear hW1
              go_wp2_with fail
              rw [← HW1.out, ← HBX.out]
              clear q0 q1 q2 q3
              refine (get_m key P.out.mt P.out.ok (by omega) S1.out).mono ?_
              rintro e w4 ⟨rfl, S4⟩
              obtain ⟨_, z1, z2, _⟩ := cell4 (MS.Lie.mem S4.out (t := actb bx ⟨1, key, val, N⟩) (List.mem_append_right _ (by simp)))
              go_wp2_with fail
              refine (refget_any ws key (.slice Aw ws.length cw) w4 (Rd.of_own (MS.Lie.mem S4.out (t := prw B (.slice Aw ws.length cw) ws) (List.mem_append_right _ (by simp)))) (by omega)).mono ?_
              rintro e w5 ⟨rfl, rfl⟩
              rw [P.out.rel.get key]
              generalize (MS.get xs key).1 = gv at *
              generalize (MS.get xs key).2 = gb at *
              have e1 : (gv.toList == gv.toList) = true := by simp
              have e2 : (gb != gb) = false := by simp
              clear z1 z2
              go_wp2_with fail
              refine (len_m P.out.mt (P.out.ok.mono (Nat.le_succ k)) (by omega) S4.out).mono ?_
              rintro e w9 ⟨rfl, S9⟩
              have hrl : Rel ws xs := P.out.rel
              have el : ((xs.length : Int) != (ws.length : Int)) = false := by rw [hrl.len]; simp
              have FIN : Hid (PlR B w0 nn (k + 1) (.pointer mp) (.slice Aw ws.length cw) w9) := hide ⟨xs, ws, js, hrl, (P.out.ok.mono (Nat.le_succ k)), P.out.sz, P.out.mt, S9.out.keep1⟩
              clear hrl S9 e1 e2
              go_wp2_with fail
              go_roundw
              case rel => exact ⟨k + 1, by omega, by go_num, FIN⟩
              case measure => simp [intOf]; omega
            · have hr := Rd.of_own (MS.Lie.mem S1.out (t := prw B (.slice Aw ws.length cw) ws) (List.mem_append_right _ (by simp)))
              have HRD := hide hr
              clear hW1 hr
              go_wp2_with fail
              rw [← HW1.out, ← HBX.out]
              clear q0 q1 q2 q3
              refine (refdel_any ws key (.slice Aw ws.length cw) W1 HRD.out (by omega)).mono ?_
              rintro e w4 ⟨v4, rfl, NP⟩
              obtain ⟨A4, c4, rfl⟩ := (Rd.of_own NP.1).shape
              have S4 := hide ((S1.out.behind NP).perm List.perm_middle.symm)
              obtain ⟨_, z1, z2, _⟩ := cell4 (MS.Lie.mem S4.out (t := actb bx ⟨2, key, val, N⟩) (List.mem_append_right _ (by simp)))
              rw [P.out.rel.del_is key]
              have HR5 := hide (P.out.rel.del key)
              clear NP
              go_wp2_with fail
              refine (del_m key P.out.mt P.out.ok (by omega) S4.out).mono ?_
              rintro e w5 ⟨rfl, js4, hm4, S5⟩
              have HM5 := hide hm4
              have OK5 : Hid (MS.Ok (del xs key) (k + 1)) := hide ((P.out.ok.del key).mono (Nat.le_succ k))
              have SZ5 : Hid (∀ y ∈ del xs key, y.1.size ≤ 20000) := hide (fun y hy => P.out.sz y ((mem_del xs key P.out.ok.hs y).1 hy).1)
              generalize del xs key = x5 at *
              generalize refDel ws key = w5s at *
              generalize has xs key = hb at *
              have e1 : (hb != hb) = false := by simp
              clear z1 z2 S4 hm4
              go_wp2_with fail
              refine (len_m HM5.out OK5.out (by omega) S5.out).mono ?_
              rintro e w9 ⟨rfl, S9⟩
              have hrl : Rel w5s x5 := HR5.out
              have el : ((x5.length : Int) != (w5s.length : Int)) = false := by rw [hrl.len]; simp
              have FIN : Hid (PlR B w0 nn (k + 1) (.pointer mp) (.slice A4 w5s.length c4) w9) := hide ⟨x5, w5s, js4, hrl, OK5.out, SZ5.out, HM5.out, S9.out.keep1⟩
              clear hrl S9 e1
              go_wp2_with fail
              go_roundw
              case rel => exact ⟨k + 1, by omega, by go_num, FIN⟩
              case measure => simp [intOf]; omega
            · clear hW1
              go_wp2_with fail
              rw [← HW1.out, ← HBX.out]
              clear q0 q1 q2 q3
              refine (floor_m key P.out.mt P.out.ok (by omega) S1.out).mono ?_
              rintro e w4 ⟨rfl, S4⟩
              obtain ⟨_, z1, z2, _⟩ := cell4 (MS.Lie.mem S4.out (t := actb bx ⟨3, key, val, N⟩) (List.mem_append_right _ (by simp)))
              go_wp2_with fail
              refine (reffloor_any ws key (.slice Aw ws.length cw) w4 (Rd.of_own (MS.Lie.mem S4.out (t := prw B (.slice Aw ws.length cw) ws) (List.mem_append_right _ (by simp)))) (by omega) (by omega) SK.out).mono ?_
              rintro e w5 ⟨rfl, t5⟩
              have S5 := hide (S4.out.stay t5)
              rw [P.out.rel.floor key]
              generalize (refFloor ws key).1.1 = f1 at *
              generalize (refFloor ws key).1.2 = f2 at *
              generalize (refFloor ws key).2 = fb at *
              have e1 : (f1.toList == f1.toList) = true := by simp
              have e2 : (f2.toList == f2.toList) = true := by simp
              have e3 : (fb != fb) = false := by simp
              have S6 := hide (S5.out.skip (.cells #[.string f1, .string f2] 25))
              clear z1 z2 t5 S4 S5
              go_wp2_with fail
              refine (len_m P.out.mt (P.out.ok.mono (Nat.le_succ k)) (by omega) S6.out).mono ?_
              rintro e w9 ⟨rfl, S9⟩
              have hrl : Rel ws xs := P.out.rel
              have el : ((xs.length : Int) != (ws.length : Int)) = false := by rw [hrl.len]; simp
              have FIN : Hid (PlR B w0 nn (k + 1) (.pointer mp) (.slice Aw ws.length cw) w9) := hide ⟨xs, ws, js, hrl, (P.out.ok.mono (Nat.le_succ k)), P.out.sz, P.out.mt, S9.out.keep1⟩
              clear hrl S9 e1 e2 e3
              go_wp2_with fail
              go_roundw
              case rel => exact ⟨k + 1, by omega, by go_num, FIN⟩
              case measure => simp [intOf]; omega
            · clear hW1
              obtain ⟨_, z1, z2, _⟩ := cell4 (MS.Lie.mem S1.out (t := actb bx ⟨4, key, val, N⟩) (List.mem_append_right _ (by simp)))
              clear z2
              go_wp2_with fail
              rw [← HW1.out, ← HBX.out]
              clear q0 q1 q2 q3
              refine wp_region_noPanic ?_
              refine wp_region_held_drew (S := (fun W => W.cell? ⟨bx, 1, none⟩ = some (.string key))) (by kernel_rfl) z1 (fun hHeld => ?_)
              refine wpAnyH_take (i := 0) (oi := ?oi101) (v := ?v101) ?hi101 (by kernel_rfl) (by kernel_rfl) (by kernel_rfl) ?hQ101 ?hy101 hHeld ?rest101
              case hi101 => simp only [List.getElem?_toArray, List.getElem?_cons_zero]; rfl
              case hQ101 => exact fun _ _ _ h => h
              case hy101 =>
                refine Or.inl ⟨by rfl, ?_⟩
                intro w' hSw
                go_simp
                try with_reducible rfl
              try simp only [Act.put, List.setIfInBounds_toArray, List.set_cons_zero, List.set_cons_succ]
              refine wpAnyH_take (i := 1) (oi := ?oi102) (v := ?v102) ?hi102 (by kernel_rfl) (by kernel_rfl) (by kernel_rfl) ?hQ102 ?hy102 hHeld ?rest102
              case hi102 => simp only [List.getElem?_toArray, List.getElem?_cons_succ, List.getElem?_cons_zero]; rfl
              case hQ102 => exact fun _ _ _ h => h
              case hy102 =>
                refine Or.inl ⟨by rfl, ?_⟩
                intro w' hSw
                go_simp
                try with_reducible rfl
              try simp only [Act.put, List.setIfInBounds_toArray, List.set_cons_zero, List.set_cons_succ]
              refine wpAnyH_take (i := 2) (oi := ?oi103) (v := ?v103) ?hi103 (by kernel_rfl) (by kernel_rfl) (by kernel_rfl) ?hQ103 ?hy103 hHeld ?rest103
              case hi103 => simp only [List.getElem?_toArray, List.getElem?_cons_succ, List.getElem?_cons_zero]; rfl
              case hQ103 => exact fun _ _ _ h => h
              case hy103 =>
                refine Or.inl ⟨by rfl, ?_⟩
                intro w' hSw
                go_simp
                try with_reducible rfl
              try simp only [Act.put, List.setIfInBounds_toArray, List.set_cons_zero, List.set_cons_succ]
              refine wpAnyH_take (i := 4) (oi := ?oi104) (v := ?v104) ?hi104 (by kernel_rfl) (by kernel_rfl) (by kernel_rfl) ?hQ104 ?hy104 hHeld ?rest104
              case hi104 => simp only [List.getElem?_toArray, List.getElem?_cons_succ, List.getElem?_cons_zero]; rfl
              case hQ104 => exact fun _ _ _ h => h
              case hy104 =>
                refine Or.inl ⟨by rfl, ?_⟩
                intro w' hSw
                go_simp
                try with_reducible rfl
              try simp only [Act.put, List.setIfInBounds_toArray, List.set_cons_zero, List.set_cons_succ]
              refine wpAnyH_take (i := 5) (oi := ?oi105) (v := ?v105) ?hi105 (by kernel_rfl) (by kernel_rfl) (by kernel_rfl) ?hQ105 ?hy105 hHeld ?rest105
              case hi105 => simp only [List.getElem?_toArray, List.getElem?_cons_succ, List.getElem?_cons_zero]; rfl
              case hQ105 => exact fun _ _ _ h => h
              case hy105 =>
                refine Or.inl ⟨by rfl, ?_⟩
                intro w' hSw
                go_simp
                try with_reducible rfl
              try simp only [Act.put, List.setIfInBounds_toArray, List.set_cons_zero, List.set_cons_succ]
              refine wpAnyH_take (i := 6) (oi := ?oi106) (v := ?v106) ?hi106 (by kernel_rfl) (by kernel_rfl) (by kernel_rfl) ?hQ106 ?hy106 hHeld ?rest106
              case hi106 => simp only [List.getElem?_toArray, List.getElem?_cons_succ, List.getElem?_cons_zero]; rfl
              case hQ106 => exact fun _ _ _ h => h
              case hy106 =>
                refine Or.inl ⟨by rfl, ?_⟩
                intro w' hSw
                go_simp
                try with_reducible rfl
              try simp only [Act.put, List.setIfInBounds_toArray, List.set_cons_zero, List.set_cons_succ]
              refine wpAnyH_ready (rs := [3]) (by kernel_rfl) (by simp) ?_
              refine AllReadyH.cons (o := ?oi107) ?hi107 ?st107 AllReadyH.nil
              case hi107 => simp only [List.getElem?_toArray, List.getElem?_cons_succ, List.getElem?_cons_zero]; rfl
              intro K hK
              go_simp
              go_at_call 46
              refine (fromf_any key P.out.mt P.out.ok (by omega) S1.out.drew).mono ?_
              rintro e w4 ⟨v4, js4, rfl, hm4, S4⟩
              obtain ⟨A4, c4, rfl⟩ := (Rd.of_own (MS.Lie.mem S4.out (t := prw B v4 (xs.drop (pos xs key))) (List.mem_append_right _ (by simp)))).shape
              obtain ⟨_, y1, _, _⟩ := cell4 (MS.Lie.mem S4.out (t := actb bx ⟨4, key, val, N⟩) (List.mem_append_right _ (by simp)))
              try go_wp2_with fail
              refine hK.out _ _ y1 (fun hNew => ?_)
              clear hK K hHeld
              have hHeld := hNew
              clear hNew
              try simp only [Act.put, List.setIfInBounds_toArray, List.set_cons_zero, List.set_cons_succ]
              refine wpAnyH_ready (rs := [7]) (by kernel_rfl) (by simp) ?_
              refine AllReadyH.cons (o := ?oi108) ?hi108 ?st108 AllReadyH.nil
              case hi108 => simp only [List.getElem?_toArray, List.getElem?_cons_succ, List.getElem?_cons_zero]; rfl
              intro K hK
              go_simp
              go_at_call 15
              refine (reffrom_any ws key (.slice Aw ws.length cw) w4 (Rd.of_own (MS.Lie.mem S4.out (t := prw B (.slice Aw ws.length cw) ws) (List.mem_append_right _ (by simp)))) (by omega) (by omega) SK.out).mono ?_
              rintro e w5 ⟨v5, rfl, NP⟩
              obtain ⟨A5, c5, rfl⟩ := (Rd.of_own NP.1).shape
              have S5 := hide (S4.out.behind NP)
              obtain ⟨_, y2, _, _⟩ := cell4 (MS.Lie.mem S5.out (t := actb bx ⟨4, key, val, N⟩) (List.mem_cons_of_mem _ (List.mem_append_right _ (by simp))))
              clear NP
              try go_wp2_with fail
              refine hK.out _ _ y2 (fun hNew => ?_)
              clear hK K hHeld
              have hHeld := hNew
              clear hNew
              try simp only [Act.put, List.setIfInBounds_toArray, List.set_cons_zero, List.set_cons_succ]
              refine wpAnyH_ready (rs := [8]) (by kernel_rfl) (by simp) ?_
              refine AllReadyH.cons (o := ?oi109) ?hi109 ?st109 AllReadyH.nil
              case hi109 => simp only [List.getElem?_toArray, List.getElem?_cons_succ, List.getElem?_cons_zero]; rfl
              intro K hK
              go_simp
              go_at_call 45
              have r1 := Rd.of_own (MS.Lie.mem S5.out (t := prw B (.slice A4 (xs.drop (pos xs key)).length c4) (xs.drop (pos xs key))) (List.mem_cons_of_mem _ (List.mem_append_right _ (by simp))))
              have r2 := Rd.of_own (MS.Lie.mem S5.out (t := prw B (.slice A5 (refFrom ws key).length c5) (refFrom ws key)) List.mem_cons_self)
              have r3 : (xs.drop (pos xs key)).length ≤ 100000 := by have h1 := P.out.ok.hn; rw [List.length_drop]; omega
              have r4 : (refFrom ws key).length ≤ 100000 := by have h1 := P.out.ok.hn; rw [P.out.rel.from key, List.length_drop]; omega
              have hE : decide (xs.drop (pos xs key) = refFrom ws key) = true := decide_eq_true (P.out.rel.from key).symm
              have hsm := refsame_any _ _ _ _ w5 r1 r2 r3 r4
              rw [hE] at hsm
              simp only [List.length_drop] at hsm
              clear r1 r2 r3 r4 hE
              refine hsm.mono ?_
              rintro e w6 ⟨rfl, t6⟩
              have S6 := hide (S5.out.stay t6)
              clear t6
              obtain ⟨_, y3, _, _⟩ := cell4 (MS.Lie.mem S6.out (t := actb bx ⟨4, key, val, N⟩) (List.mem_cons_of_mem _ (List.mem_append_right _ (by simp))))
              clear hsm
              try go_wp2_with fail
              refine hK.out _ _ y3 (fun hNew => ?_)
              clear hK K hHeld
              have hHeld := hNew
              clear hNew
              try simp only [Act.put, List.setIfInBounds_toArray, List.set_cons_zero, List.set_cons_succ]
              refine wpAnyH_take (i := 9) (oi := ?oi110) (v := ?v110) ?hi110 (by kernel_rfl) (by kernel_rfl) (by kernel_rfl) ?hQ110 ?hy110 hHeld ?rest110
              case hi110 => simp only [List.getElem?_toArray, List.getElem?_cons_succ, List.getElem?_cons_zero]; rfl
              case hQ110 => exact fun _ _ _ h => h
              case hy110 =>
                refine Or.inl ⟨by rfl, ?_⟩
                intro w' hSw
                go_simp
                try with_reducible rfl
              try simp only [Act.put, List.setIfInBounds_toArray, List.set_cons_zero, List.set_cons_succ]
              refine wpAnyH_done (by kernel_rfl) ?_ _
              refine NoPanic.normal ?_
              have S7 := hide (S6.out.pop.perm List.perm_middle).pop
              have HM5 := hide hm4
              clear hHeld S4 S5 S6 y1 y2 y3 z1 hm4
              go_wp2_with fail
              refine (len_m HM5.out (P.out.ok.mono (Nat.le_succ k)) (by omega) S7.out).mono ?_
              rintro e w9 ⟨rfl, S9⟩
              have hrl : Rel ws xs := P.out.rel
              have el : ((xs.length : Int) != (ws.length : Int)) = false := by rw [hrl.len]; simp
              have FIN : Hid (PlR B w0 nn (k + 1) (.pointer mp) (.slice Aw ws.length cw) w9) := hide ⟨xs, ws, js4, hrl, (P.out.ok.mono (Nat.le_succ k)), P.out.sz, HM5.out, S9.out.keep1⟩
              clear hrl S9 
              go_wp2_with fail
              go_roundw
              case rel => exact ⟨k + 1, by omega, by go_num, FIN⟩
              case measure => simp [intOf]; omega
            · clear hW1
              go_wp2_with fail
              rw [← HW1.out, ← HBX.out]
              clear q0 q1 q2 q3
              refine (clear_m P.out.mt P.out.ok (by omega) S1.out).mono ?_
              rintro e w4 ⟨rfl, js4, hm4, S4⟩
              have HM5 := hide hm4
              have S6 := hide ((S4.out.push (t := prw B (.slice none 0 0) []) (Turn.refl _ _) (World.ownsRow_nil _ _ _ _) (fun _ hk => by cases hk)).perm List.perm_middle.symm)
              have OK5 : MS.Ok ([] : List MS.Ent) (k + 1) := MS.Ok.nil.mono (by omega)
              have SZ5 : ∀ y ∈ ([] : List MS.Ent), y.1.size ≤ 20000 := fun y hy => (by cases hy)
              clear hm4 S4
              go_wp2_with fail
              refine (len_m HM5.out OK5 (by omega) S6.out).mono ?_
              rintro e w9 ⟨rfl, S9⟩
              have hrl : Rel ([] : List Pr) ([] : List MS.Ent) := Rel.nil
              have el : ((([] : List MS.Ent).length : Int) != (([] : List Pr).length : Int)) = false := by rw [hrl.len]; simp
              have FIN : Hid (PlR B w0 nn (k + 1) (.pointer mp) (.slice none 0 0) w9) := hide ⟨([] : List MS.Ent), ([] : List Pr), js4, hrl, OK5, SZ5, HM5.out, S9.out.keep1⟩
              clear hrl S9 
              go_wp2_with fail
              go_roundw
              case rel => exact ⟨k + 1, by omega, by go_num, FIN⟩
              case measure => simp [intOf]; omega
            · clear hW1
              go_wp2_with fail
              rw [← HW1.out, ← HBX.out]
              clear q0 q1 q2 q3
              refine (twin_m P.out.mt P.out.ok (by omega) S1.out).mono ?_
              rintro e w4 ⟨m4, js4, rfl, hm4, S3⟩
              cases nn with
              | true =>
                obtain ⟨rfl, hx0, rfl⟩ := hm4
                have HM4 : Hid (Mt B true (.pointer none) xs []) := hide ⟨rfl, hx0, rfl⟩
                clear hx0
                have S4 := hide (show Lie B w0 w4 (js ++ ([prw B (.slice Aw ws.length cw) ws, actb bx ⟨6, key, val, N⟩] ++ ([] : List Thing))) from by
                  have h := Lie.comm S3.out
                  rwa [List.append_assoc] at h)
                obtain ⟨_, z1, z2, _⟩ := cell4 (MS.Lie.mem S4.out (t := actb bx ⟨6, key, val, N⟩) (List.mem_append_right _ (by simp)))
                clear S3
                go_wp2_with fail
                refine (set_m key ⟨#[111, 108, 100]⟩ P.out.mt P.out.ok (by omega) S4.out).mono ?_
                rintro e w5 ⟨rfl, js5, hm5, S5⟩
                obtain ⟨_, y1, y2, _⟩ := cell4 (MS.Lie.mem S5.out (t := actb bx ⟨6, key, val, N⟩) (List.mem_append_right _ (by simp)))
                have HM5 := hide hm5
                have OK5 := hide (put_ok P.out.ok true key ⟨#[111, 108, 100]⟩)
                clear S4 z1 z2 hm5
                go_wp2_with fail
                refine (del_m val HM5.out OK5.out (by omega) S5.out).mono ?_
                rintro e w6 ⟨rfl, js6, hm6, S6⟩
                have S7 := hide (Lie.comm (ts := [prw B (.slice Aw ws.length cw) ws, actb bx ⟨6, key, val, N⟩]) (us := ([] : List Thing)) (Lie.dropL S6.out))
                clear S5 S6 y1 y2 hm6 HM5 OK5
                go_wp2_with fail
                refine (len_m HM4.out (P.out.ok.mono (Nat.le_succ k)) (by omega) S7.out).mono ?_
                rintro e w9 ⟨rfl, S9⟩
                have hrl : Rel ws xs := P.out.rel
                have el : ((xs.length : Int) != (ws.length : Int)) = false := by rw [hrl.len]; simp
                have FIN : Hid (PlR B w0 true (k + 1) (.pointer none) (.slice Aw ws.length cw) w9) := hide ⟨xs, ws, ([] : List Thing), hrl, (P.out.ok.mono (Nat.le_succ k)), P.out.sz, HM4.out, S9.out.keep1⟩
                clear hrl S9 
                go_wp2_with fail
                go_roundw
                case rel => exact ⟨k + 1, by omega, by go_num, FIN⟩
                case measure => simp [intOf]; omega
              | false =>
                obtain ⟨T4, v4, lent4, rfl, rfl⟩ := hm4
                have HM4 : Hid (Mt B false (MS.pt T4) xs (MS.tb B T4 v4 lent4 xs)) := hide Mt.some
                have S4 := hide (show Lie B w0 w4 (js ++ ([prw B (.slice Aw ws.length cw) ws, actb bx ⟨6, key, val, N⟩] ++ (MS.tb B T4 v4 lent4 xs))) from by
                  have h := Lie.comm S3.out
                  rwa [List.append_assoc] at h)
                obtain ⟨_, z1, z2, _⟩ := cell4 (MS.Lie.mem S4.out (t := actb bx ⟨6, key, val, N⟩) (List.mem_append_right _ (by simp)))
                clear S3
                go_wp2_with fail
                refine (set_m key ⟨#[111, 108, 100]⟩ P.out.mt P.out.ok (by omega) S4.out).mono ?_
                rintro e w5 ⟨rfl, js5, hm5, S5⟩
                obtain ⟨_, y1, y2, _⟩ := cell4 (MS.Lie.mem S5.out (t := actb bx ⟨6, key, val, N⟩) (List.mem_append_right _ (by simp)))
                have HM5 := hide hm5
                have OK5 := hide (put_ok P.out.ok false key ⟨#[111, 108, 100]⟩)
                clear S4 z1 z2 hm5
                go_wp2_with fail
                refine (del_m val HM5.out OK5.out (by omega) S5.out).mono ?_
                rintro e w6 ⟨rfl, js6, hm6, S6⟩
                have S7 := hide (Lie.comm (ts := [prw B (.slice Aw ws.length cw) ws, actb bx ⟨6, key, val, N⟩]) (us := (MS.tb B T4 v4 lent4 xs)) (Lie.dropL S6.out))
                clear S5 S6 y1 y2 hm6 HM5 OK5
                go_wp2_with fail
                refine (len_m HM4.out (P.out.ok.mono (Nat.le_succ k)) (by omega) S7.out).mono ?_
                rintro e w9 ⟨rfl, S9⟩
                have hrl : Rel ws xs := P.out.rel
                have el : ((xs.length : Int) != (ws.length : Int)) = false := by rw [hrl.len]; simp
                have FIN : Hid (PlR B w0 false (k + 1) (.pointer (some ⟨T4, 0, none⟩)) (.slice Aw ws.length cw) w9) := hide ⟨xs, ws, (MS.tb B T4 v4 lent4 xs), hrl, (P.out.ok.mono (Nat.le_succ k)), P.out.sz, HM4.out, S9.out.keep1⟩
                clear hrl S9 
                go_wp2_with fail
                go_roundw
                case rel => exact ⟨k + 1, by omega, by go_num, FIN⟩
                case measure => simp [intOf]; omega
            · clear hW1
              obtain ⟨z0, z1, z2, z3⟩ := cell4 (MS.Lie.mem S1.out (t := actb bx ⟨7, key, val, N⟩) (List.mem_append_right _ (by simp)))
              go_wp2_with fail
              rw [← HW1.out, ← HBX.out]
              clear q0 q1 q2 q3
              refine wp_region_noPanic ?_
              refine wp_region_held_drew (S := (fun W => W.cell? ⟨bx, 0, none⟩ = some (.int .i64 7) ∧ W.cell? ⟨bx, 1, none⟩ = some (.string key) ∧ W.cell? ⟨bx, 2, none⟩ = some (.string val) ∧ W.cell? ⟨bx, 3, none⟩ = some (.int .i64 N))) (by kernel_rfl) ⟨z0, z1, z2, z3⟩ (fun hHeld => ?_)
              refine wpAnyH_take (i := 0) (oi := ?oi111) (v := ?v111) ?hi111 (by kernel_rfl) (by kernel_rfl) (by kernel_rfl) ?hQ111 ?hy111 hHeld ?rest111
              case hi111 => simp only [List.getElem?_toArray, List.getElem?_cons_zero]; rfl
              case hQ111 => exact fun _ _ _ h => h
              case hy111 =>
                refine Or.inl ⟨by rfl, ?_⟩
                intro w' hSw
                go_simp
                try with_reducible rfl
              try simp only [Act.put, List.setIfInBounds_toArray, List.set_cons_zero, List.set_cons_succ]
              refine wpAnyH_take (i := 2) (oi := ?oi112) (v := ?v112) ?hi112 (by kernel_rfl) (by kernel_rfl) (by kernel_rfl) ?hQ112 ?hy112 hHeld ?rest112
              case hi112 => simp only [List.getElem?_toArray, List.getElem?_cons_succ, List.getElem?_cons_zero]; rfl
              case hQ112 => exact fun _ _ _ h => h
              case hy112 =>
                refine Or.inl ⟨by rfl, ?_⟩
                intro w' hSw
                obtain ⟨u1, u2, u3, u4⟩ := hSw
                go_simp
                try with_reducible rfl
              try simp only [Act.put, List.setIfInBounds_toArray, List.set_cons_zero, List.set_cons_succ]
              refine wpAnyH_take (i := 3) (oi := ?oi113) (v := ?v113) ?hi113 (by kernel_rfl) (by kernel_rfl) (by kernel_rfl) ?hQ113 ?hy113 hHeld ?rest113
              case hi113 => simp only [List.getElem?_toArray, List.getElem?_cons_succ, List.getElem?_cons_zero]; rfl
              case hQ113 => exact fun _ _ _ h => h
              case hy113 =>
                refine Or.inl ⟨by rfl, ?_⟩
                intro w' hSw
                go_simp
                try with_reducible rfl
              try simp only [Act.put, List.setIfInBounds_toArray, List.set_cons_zero, List.set_cons_succ]
              refine wpAnyH_take (i := 4) (oi := ?oi114) (v := ?v114) ?hi114 (by kernel_rfl) (by kernel_rfl) (by kernel_rfl) ?hQ114 ?hy114 hHeld ?rest114
              case hi114 => simp only [List.getElem?_toArray, List.getElem?_cons_succ, List.getElem?_cons_zero]; rfl
              case hQ114 => exact fun _ _ _ h => h
              case hy114 =>
                refine Or.inl ⟨by rfl, ?_⟩
                intro w' hSw
                go_simp
                try with_reducible rfl
              try simp only [Act.put, List.setIfInBounds_toArray, List.set_cons_zero, List.set_cons_succ]
              refine wpAnyH_take (i := 5) (oi := ?oi115) (v := ?v115) ?hi115 (by kernel_rfl) (by kernel_rfl) (by kernel_rfl) ?hQ115 ?hy115 hHeld ?rest115
              case hi115 => simp only [List.getElem?_toArray, List.getElem?_cons_succ, List.getElem?_cons_zero]; rfl
              case hQ115 => exact fun _ _ _ h => h
              case hy115 =>
                refine Or.inl ⟨by rfl, ?_⟩
                intro w' hSw
                obtain ⟨u1, u2, u3, u4⟩ := hSw
                go_simp
                try with_reducible rfl
              try simp only [Act.put, List.setIfInBounds_toArray, List.set_cons_zero, List.set_cons_succ]
              refine wpAnyH_ready (rs := [1]) (by kernel_rfl) (by simp) ?_
              refine AllReadyH.cons (o := ?oi116) ?hi116 ?st116 AllReadyH.nil
              case hi116 => simp only [List.getElem?_toArray, List.getElem?_cons_succ, List.getElem?_cons_zero]; rfl
              intro K hK
              go_simp
              go_at_call 48
              refine (twin_m P.out.mt P.out.ok (by omega) S1.out.drew).mono ?_
              rintro e w4 ⟨m4, js4, rfl, hm4, S4⟩
              obtain ⟨y0, y1, y2, y3⟩ := cell4 (MS.Lie.mem S4.out (t := actb bx ⟨7, key, val, N⟩) (List.mem_append_right _ (List.mem_append_right _ (by simp))))
              try go_wp2_with fail
              refine hK.out _ _ ⟨y0, y1, y2, y3⟩ (fun hNew => ?_)
              clear hK K hHeld
              have hHeld := hNew
              clear hNew
              try simp only [Act.put, List.setIfInBounds_toArray, List.set_cons_zero, List.set_cons_succ]
              refine wpAnyH_ready (rs := [6]) (by kernel_rfl) (by simp) ?_
              refine AllReadyH.cons (o := ?oi117) ?hi117 ?st117 AllReadyH.nil
              case hi117 => simp only [List.getElem?_toArray, List.getElem?_cons_succ, List.getElem?_cons_zero]; rfl
              intro K hK
              go_simp
              go_at_call 15
              refine (reffrom_any ws key (.slice Aw ws.length cw) w4 (Rd.of_own (MS.Lie.mem S4.out (t := prw B (.slice Aw ws.length cw) ws) (List.mem_append_right _ (List.mem_append_right _ (by simp))))) (by omega) (by omega) SK.out).mono ?_
              rintro e w5 ⟨v5, rfl, NP⟩
              have S5 := hide ((S4.out.behind NP).perm List.perm_middle.symm)
              clear NP
              obtain ⟨x0, x1, x2, x3⟩ := cell4 (MS.Lie.mem S5.out (t := actb bx ⟨7, key, val, N⟩) (List.mem_append_right _ (List.mem_cons_of_mem _ (List.mem_append_right _ (by simp)))))
              try go_wp2_with fail
              refine hK.out _ _ ⟨x0, x1, x2, x3⟩ (fun hNew => ?_)
              clear hK K hHeld
              have hHeld := hNew
              clear hNew
              try simp only [Act.put, List.setIfInBounds_toArray, List.set_cons_zero, List.set_cons_succ]
              refine wpAnyH_ready (rs := [7]) (by kernel_rfl) (by simp) ?_
              refine AllReadyH.cons (o := ?oi118) ?hi118 ?st118 AllReadyH.nil
              case hi118 => simp only [List.getElem?_toArray, List.getElem?_cons_succ, List.getElem?_cons_zero]; rfl
              intro K hK
              go_simp
              go_at_call 49
              refine (mean_any ⟨7, key, val, N⟩ v5 hm4 (P.out.ok.mono (by omega)) (fun y hy => by have := P.out.sz y hy; omega) (by rw [← P.out.rel.from key]; exact List.mem_cons_self) S5.out).mono ?_
              rintro e w6 ⟨rfl, S6⟩
              have S7 := hide S6.out.pop
              obtain ⟨u0, u1, u2, u3⟩ := cell4 (MS.Lie.mem S7.out (t := actb bx ⟨7, key, val, N⟩) (List.mem_append_right _ (by simp)))
              try go_wp2_with fail
              refine hK.out _ _ ⟨u0, u1, u2, u3⟩ (fun hNew => ?_)
              clear hK K hHeld
              have hHeld := hNew
              clear hNew
              try simp only [Act.put, List.setIfInBounds_toArray, List.set_cons_zero, List.set_cons_succ]
              refine wpAnyH_take (i := 8) (oi := ?oi119) (v := ?v119) ?hi119 (by kernel_rfl) (by kernel_rfl) (by kernel_rfl) ?hQ119 ?hy119 hHeld ?rest119
              case hi119 => simp only [List.getElem?_toArray, List.getElem?_cons_succ, List.getElem?_cons_zero]; rfl
              case hQ119 => exact fun _ _ _ h => h
              case hy119 =>
                refine Or.inl ⟨by rfl, ?_⟩
                intro w' hSw
                go_simp
                try with_reducible rfl
              try simp only [Act.put, List.setIfInBounds_toArray, List.set_cons_zero, List.set_cons_succ]
              refine wpAnyH_done (by kernel_rfl) ?_ _
              refine NoPanic.normal ?_
              clear hHeld S4 S5 S6 y0 y1 y2 y3 x0 x1 x2 x3 u0 u1 u2 u3 z0 z1 z2 z3 hm4
              go_wp2_with fail
              refine (len_m P.out.mt (P.out.ok.mono (Nat.le_succ k)) (by omega) S7.out).mono ?_
              rintro e w9 ⟨rfl, S9⟩
              have hrl : Rel ws xs := P.out.rel
              have el : ((xs.length : Int) != (ws.length : Int)) = false := by rw [hrl.len]; simp
              have FIN : Hid (PlR B w0 nn (k + 1) (.pointer mp) (.slice Aw ws.length cw) w9) := hide ⟨xs, ws, js, hrl, (P.out.ok.mono (Nat.le_succ k)), P.out.sz, P.out.mt, S9.out.keep1⟩
              clear hrl S9 
              go_wp2_with fail
              go_roundw
              case rel => exact ⟨k + 1, by omega, by go_num, FIN⟩
              case measure => simp [intOf]; omega
            · clear hW1
              go_wp2_with fail
              rw [← HW1.out, ← HBX.out]
              clear q0 q1 q2 q3
              refine (len_m P.out.mt (P.out.ok.mono (Nat.le_succ k)) (by omega) S1.out).mono ?_
              rintro e w9 ⟨rfl, S9⟩
              have hrl : Rel ws xs := P.out.rel
              have el : ((xs.length : Int) != (ws.length : Int)) = false := by rw [hrl.len]; simp
              have FIN : Hid (PlR B w0 nn (k + 1) (.pointer mp) (.slice Aw ws.length cw) w9) := hide ⟨xs, ws, js, hrl, (P.out.ok.mono (Nat.le_succ k)), P.out.sz, P.out.mt, S9.out.keep1⟩
              clear hrl S9 
              go_wp2_with fail
              go_roundw
              case rel => exact ⟨k + 1, by omega, by go_num, FIN⟩
              case measure => simp [intOf]; omega
          · obtain rfl : k = n := by omega
            go_wp2_with fail
            refine (fromf_any ⟨#[]⟩ P.out.mt P.out.ok (by omega) P.out.lie).mono ?_
            rintro e w4 ⟨v4, js4, rfl, hm4, S4⟩
            obtain ⟨A4, c4, rfl⟩ := (Rd.of_own (MS.Lie.mem S4.out (t := prw B v4 (xs.drop (pos xs ⟨#[]⟩))) (List.mem_append_right _ (by simp)))).shape
            have hf : decide (xs.drop (pos xs ⟨#[]⟩) = refFrom ws ⟨#[]⟩) = true := decide_eq_true (P.out.rel.from ⟨#[]⟩).symm
            have hfl : (refFrom ws ⟨#[]⟩).length ≤ 100000 := by rw [P.out.rel.from ⟨#[]⟩, List.length_drop]; have := P.out.ok.hn; omega
            have hxl : (xs.drop (pos xs ⟨#[]⟩)).length ≤ 100000 := by rw [List.length_drop]; have := P.out.ok.hn; omega
            have HF := hide hf
            have HFL := hide hfl
            have HXL := hide hxl
            clear hm4 hf hfl hxl PI HR
            go_wp2_with fail
            refine (reffrom_any ws ⟨#[]⟩ (.slice Aw ws.length cw) w4 (Rd.of_own (MS.Lie.mem S4.out (t := prw B (.slice Aw ws.length cw) ws) (List.mem_append_right _ (by simp)))) (by omega) (by decide) (fun y hy => by have := P.out.sz y ((P.out.rel.mem y).1 hy); omega)).mono ?_
            rintro e w5 ⟨v5, rfl, NP⟩
            obtain ⟨A5, c5, rfl⟩ := (Rd.of_own NP.1).shape
            have S5 := hide (S4.out.behind NP)
            clear NP S4
            go_wp2_with fail
            have hsm := refsame_any (xs.drop (pos xs ⟨#[]⟩)) (refFrom ws ⟨#[]⟩) (.slice A4 (xs.drop (pos xs ⟨#[]⟩)).length c4) (.slice A5 (refFrom ws ⟨#[]⟩).length c5) w5 (Rd.of_own (MS.Lie.mem S5.out (t := prw B (.slice A4 (xs.drop (pos xs ⟨#[]⟩)).length c4) (xs.drop (pos xs ⟨#[]⟩))) (List.mem_cons_of_mem _ (List.mem_append_right _ (by simp))))) (Rd.of_own (MS.Lie.mem S5.out (t := prw B (.slice A5 (refFrom ws ⟨#[]⟩).length c5) (refFrom ws ⟨#[]⟩)) List.mem_cons_self)) HXL.out HFL.out
            rw [HF.out] at hsm
            simp only [List.length_drop] at hsm
            refine hsm.mono ?_
            rintro e w6 ⟨rfl, t6⟩
            have S6 := hide (S5.out.stay t6)
            clear t6 S5
            go_wp2_with fail
            exact bodyPost_ret (results_tmp rfl _ _ _) rfl ⟨rfl, S6.out.below⟩
end Go.Proofs.Ytcaeechlpadboaa
