/-
  MemSorted: the walk.
-/
import Derived.Test.YtcaeechlpadboaaSorted0
import Derived.Test.YtcaeechlpadboaaAwake
namespace Go.Proofs.Ytcaeechlpadboaa
open Go.RowKit Go.Maps Go.Shelf
attribute [local go_sem] Oper.semAt_some

/-- The last key that was gone over. -/
def lastK (pre : List MI.Ent) : ByteArray := (pre.getLast?.map (·.1)).getD k0
theorem lastK_snoc (pre : List MI.Ent) (x : MI.Ent) : lastK (pre ++ [x]) = x.1 := by simp [lastK]
theorem lastK_below (xs : List MI.Ent) (hs : Srt xs) (pre : List MI.Ent) (x : MI.Ent) (h : pre ++ [x] <+: xs) (h0 : 0 < pre.length) : kc (lastK pre) x.1 < 0 := by
  obtain ⟨t, rfl⟩ := h
  obtain ⟨a, y, rfl⟩ : ∃ a y, pre = a ++ [y] := ⟨pre.dropLast, pre.getLast (List.ne_nil_of_length_pos h0), (List.dropLast_concat_getLast _).symm⟩
  rw [lastK_snoc]
  have := List.pairwise_append.1 (List.pairwise_append.1 hs).1
  exact this.2.2 y (by simp) x (by simp)
/-- What lies there between two rounds of the first range. -/
def SoI (B Ta Tb tb : Nat) (v3 v5 : Value) (xs : List MI.Ent) (lb : Nat) (sl av : Value) (lt nt : Nat) (pre : List MI.Ent) (js : List Thing) : Prop :=
  js = MI.tb B Ta v3 true xs ++ [MI.lbx lb sl, box tb (.cells #[MI.pt Tb] 33 (0, 0)), MI.rw_ B v5 xs, box Tb (MI.mobj v5 false), box (B + 1) (.cells #[.bool false] 4 (0, 0)), box B (.cells #[av] 22 (0, 0)), box lt (.cells #[.string (lastK pre)] 9 (0, 0)), box nt (.cells #[.int .i64 pre.length] 3 (0, 0))]

/-- .. of the second range. -/
def SoJ (B Ta : Nat) (v3 : Value) (xs : List MI.Ent) (lb : Nat) (sl av : Value) (nt D1 bt : Nat) (pre : List MI.Ent) (js : List Thing) : Prop :=
  js = MI.tb B Ta v3 true xs ++ [MI.lbx lb sl, box (B + 1) (.cells #[.bool false] 4 (0, 0)), box B (.cells #[av] 22 (0, 0)), box nt (.cells #[.int .i64 xs.length] 3 (0, 0)), box D1 (.deferred (some [])), box bt (.cells #[.int .i64 pre.length] 3 (0, 0))]
/-- .. of the third. -/
def SoK (B Ta : Nat) (v3 : Value) (xs : List MI.Ent) (lb : Nat) (sl av : Value) (nt D1 bt D2 rt below : Nat) (pre : List MI.Ent) (js : List Thing) : Prop :=
  js = MI.tb B Ta v3 true xs ++ [MI.lbx lb sl, box (B + 1) (.cells #[.bool false] 4 (0, 0)), box B (.cells #[av] 22 (0, 0)), box nt (.cells #[.int .i64 xs.length] 3 (0, 0)), box D1 (.deferred (some [])), box bt (.cells #[.int .i64 below] 3 (0, 0)), box D2 (.deferred (some [])), box rt (.cells #[.int .i64 pre.length] 3 (0, 0))]

set_option maxRecDepth 100000 in
set_option maxHeartbeats 8000000 in
theorem sorted_any (v : Value) (l : List Pr) (key : ByteArray) (w : World) (hl : Rd w 2 v l.length (l.flatMap prc)) (hmax : l.length ≤ maxLen) (_hkey : key.size ≤ maxLen) : Calls Try.prog 4 #[v, .string key] w fun e w' => e = .returned (.bool true) ∧ Below w.heap.size w w' := by
  have hq := fun fi ca W => run_eql_func_nil (P := Try.prog) W 42 (.func 58) fi ca Try.underlying42
  have HL := hide hl
  obtain ⟨w0, rfl⟩ : ∃ w0, w0 = w := ⟨_, rfl⟩
  obtain ⟨B, hB⟩ : ∃ B, B = w0.heap.size := ⟨_, rfl⟩
  have HB := hide hB
  rw [← hB]
  clear hB
  obtain ⟨A, c, rfl⟩ := hl.shape
  obtain ⟨n, hnn⟩ : ∃ n, n = l.length := ⟨_, rfl⟩
  have HN := hide hnn
  rw [← hnn] at hmax ⊢
  unfold maxLen at hmax _hkey
  clear hl hnn
  have S0 : Hid (Lie B w0 ((w0.alloc (.cells #[.slice A n c] 22)).alloc (.cells #[.bool false] 4)) [box (B + 1) (.cells #[.bool false] 4 (0, 0)), box B (.cells #[.slice A n c] 22 (0, 0))]) := hide (by
    have h := ((Lie.start w0).alloc (.cells #[.slice A n c] 22)).alloc (.cells #[.bool false] 4)
    have e1 : (w0.alloc (.cells #[.slice A n c] 22)).heap.size = w0.heap.size + 1 := by simp
    rw [e1, ← HB.out] at h
    exact h)
  refine callsIn_wide.1 (callsIn_of_wp_marks (n := 1) (F := Fence.wide) Try.func4 rfl trivial (wpIn_wide.2 ?_) rfl)
  simp only [Try.ntmps4, List.size_toArray, List.length_cons, List.length_nil, Nat.reduceAdd, Nat.reduceSub, Array.replicate_succ, Array.replicate_zero, List.push_toArray, List.append_toArray, List.nil_append, List.cons_append]
  go_wp2_with fail
  rw [← HB.out]
  refine (awake_L S0.out).mono ?_
  rintro e w1 ⟨rfl, S1⟩
  clear S0
  obtain ⟨d0, g0⟩ := cell1 (S1.out.get 1 rfl)
  obtain ⟨d1, g1⟩ := cell1 (S1.out.get 0 rfl)
  go_wp2_with fail
  clear d0 g0 d1 g1
  go_loopw [5, 6] (fun s i wr => ∃ (k : Nat) (m : Int), k ≤ n ∧ k ≤ 101 ∧ i = .int .i64 k ∧ s = .int .i64 m ∧ Hid (∃ d, wr = w1.drewN d)) (fun _ i _ => n - (intOf i).toNat)
  case atStart => exact ⟨0, key.size, by omega, by omega, rfl, rfl, hide ⟨0, rfl⟩⟩
  case round =>
    obtain ⟨k, m, hk, hk3, rfl, rfl, HD⟩ := hrel
    have SR : Hid (Lie B w0 wr [box (B + 1) (.cells #[.bool false] 4 (0, 0)), box B (.cells #[.slice A n c] 22 (0, 0))]) := hide (by obtain ⟨d, hd⟩ := HD.out; rw [hd]; exact S1.out.drewN d)
    obtain ⟨d0, g0⟩ := cell1 (SR.out.get 1 rfl)
    obtain ⟨d1, g1⟩ := cell1 (SR.out.get 0 rfl)
    by_cases hlt : k < n ∧ k ≤ 100
    · obtain ⟨hlt, h3⟩ := hlt
      obtain ⟨b, o, rfl, hb, hc⟩ := pair_at l (HL.out.below (HB.out ▸ SR.out.below)) (by have := HN.out; omega)
      have hkl : k < l.length := by have := HN.out; omega
      obtain ⟨q1, q2⟩ := hc k hkl
      obtain ⟨s1, hs1⟩ : ∃ s, s = (l[k]).1 := ⟨_, rfl⟩
      obtain ⟨s2, hs2⟩ : ∃ s, s = (l[k]).2 := ⟨_, rfl⟩
      rw [← hs1] at q1
      rw [← hs2] at q2
      clear hc hs1 hs2 SR
      by_cases z1 : 20001 < s1.size
      · by_cases z2 : 20001 < s2.size
        · go_wp2_with fail
          go_quiet (fail)
          go_wp2_with fail
          go_roundw
          case rel => exact ⟨k + 1, _, by omega, by omega, by go_num, rfl, hide (by obtain ⟨d, hd⟩ := HD.out; rw [hd]; exact ⟨_, World.drewN_drewN ..⟩)⟩
          case measure => simp [intOf]; omega
        · go_wp2_with fail
          go_quiet (fail)
          go_wp2_with fail
          go_roundw
          case rel => exact ⟨k + 1, _, by omega, by omega, by go_num, rfl, hide (by obtain ⟨d, hd⟩ := HD.out; rw [hd]; exact ⟨_, World.drewN_drewN ..⟩)⟩
          case measure => simp [intOf]; omega
      · by_cases z2 : 20001 < s2.size
        · go_wp2_with fail
          go_quiet (fail)
          go_wp2_with fail
          go_roundw
          case rel => exact ⟨k + 1, _, by omega, by omega, by go_num, rfl, hide (by obtain ⟨d, hd⟩ := HD.out; rw [hd]; exact ⟨_, World.drewN_drewN ..⟩)⟩
          case measure => simp [intOf]; omega
        · go_wp2_with fail
          go_quiet (fail)
          go_wp2_with fail
          go_roundw
          case rel => exact ⟨k + 1, _, by omega, by omega, by go_num, rfl, hide (by obtain ⟨d, hd⟩ := HD.out; rw [hd]; exact ⟨_, World.drewN_drewN ..⟩)⟩
          case measure => simp [intOf]; omega
    · by_cases h1 : 100 < n
      · go_wp2_with fail
        all_goals
          have SZ := SR.out.setBox 0 rfl 0 (.bool true)
          have HZ := hide SZ
          obtain ⟨dz, gz⟩ := cell1 (SZ.get 0 rfl)
          clear SZ
          refine ⟨.bool true, ?_, rfl, HZ.out.below⟩
          simp [results, Try.f4, go_sem, dz]
      · obtain rfl : k = n := by omega
        by_cases hbm : 20000 < m
        · go_wp2_with fail
          all_goals
            have SZ := SR.out.setBox 0 rfl 0 (.bool true)
            have HZ := hide SZ
            obtain ⟨dz, gz⟩ := cell1 (SZ.get 0 rfl)
            clear SZ
            refine ⟨.bool true, ?_, rfl, HZ.out.below⟩
            simp [results, Try.f4, go_sem, dz]
        · clear hlt hk HD
          go_wp2_with fail
          refine (MI.new_tb SR.out).mono ?_
          rintro e w2 ⟨Ta, va, rfl, S2⟩
          clear SR d0 g0 d1 g1
          go_wp2_with fail
          refine (MI.new_tb S2.out).mono ?_
          rintro e w3 ⟨Tb, vb, rfl, S3⟩
          have S4 := hide (S3.out.alloc (.cells #[MI.pt Tb] 33))
          clear S2
          have S5 : Hid (Lie B w0 (w3.alloc (.cells #[MI.pt Tb] 33)) (MI.tb B Ta va false [] ++ (box w3.heap.size (.cells #[MI.pt Tb] 33 (0, 0)) :: (MI.tb B Tb vb false [] ++ [box (B + 1) (.cells #[.bool false] 4 (0, 0)), box B (.cells #[.slice A k c] 22 (0, 0))])))) := hide (S4.out.perm (List.perm_append_comm_assoc [_, _, _] [_, _] _))
          obtain ⟨d0, g0⟩ := cell1 (S4.out.get 6 rfl)
          clear S3 S4
          go_wp2_with fail
          clear d0 g0
          generalize w3.heap.size = tb at *
          go_loopw [9] (fun i wr => ∃ q : Nat, q ≤ k ∧ i = .int .i64 q ∧ ∃ v', Lie B w0 wr (MI.tb B Ta v' false (tabA l q) ++ (box tb (.cells #[MI.pt Tb] 33 (0, 0)) :: (MI.tb B Tb vb false [] ++ [box (B + 1) (.cells #[.bool false] 4 (0, 0)), box B (.cells #[.slice A k c] 22 (0, 0))])))) (fun i _ => k - (intOf i).toNat)
          case atStart => exact ⟨0, by omega, rfl, va, S5.out⟩
          case round =>
            clear S5
            obtain ⟨q, hq, rfl, v3, hL⟩ := hrel
            have H := hide hL
            obtain ⟨d0, g0⟩ := cell1 (hL.get 6 rfl)
            by_cases hlt : q < k
            · have hql : q < l.length := by have := HN.out; omega
              obtain ⟨b, o, rfl, hb, hc⟩ := pair_at l (HL.out.below (HB.out ▸ hL.below)) (by omega)
              obtain ⟨q1, _⟩ := hc q hql
              have HTS : Hid (tabA l (q + 1) = put (tabA l q) (l[q]).1 (q : Int)) := hide (by rw [tabA, List.getElem?_eq_getElem hql]; rfl)
              have OK := hide ((tabA_ok l q).mono (m := 1000) (by omega))
              generalize (l[q]).1 = s1 at *
              clear hc hL
              go_wp2_with fail
              refine (MI.set_tb s1 (q : Int) OK.out (by omega) H.out).mono ?_
              rintro e w4 ⟨rfl, v4, S6⟩
              rw [← HTS.out] at S6
              go_wp2_with fail
              go_roundw
              case rel => exact ⟨q + 1, by omega, by go_num, v4, S6.out⟩
              case measure => simp [intOf]; omega
            · obtain rfl : q = k := by omega
              clear hL
              go_wp2_with fail
              go_loopw [10] (fun i wr => ∃ j : Nat, j ≤ q ∧ i = .int .i64 ((q : Int) - 1 - j) ∧ ∃ v', Lie B w0 wr (MI.tb B Ta v3 false (tabA l q) ++ (box tb (.cells #[MI.pt Tb] 33 (0, 0)) :: (MI.tb B Tb v' false (tabB l j) ++ [box (B + 1) (.cells #[.bool false] 4 (0, 0)), box B (.cells #[.slice A q c] 22 (0, 0))])))) (fun i _ => (intOf i + 1).toNat)
              case atStart => exact ⟨0, by omega, by simp, vb, H.out⟩
              case round =>
                clear H d0 g0
                obtain ⟨j, hj, rfl, v5, hL⟩ := hrel
                have H := hide hL
                obtain ⟨d0, g0⟩ := cell1 (hL.get 6 rfl)
                obtain ⟨d1, g1⟩ := cell1 (hL.get 2 rfl)
                by_cases hlt : j < q
                · obtain ⟨p, hp⟩ : ∃ p : Nat, p = q - 1 - j := ⟨_, rfl⟩
                  have hpi : (q : Int) - 1 - j = (p : Int) := by omega
                  have hpl : p < l.length := by have := HN.out; omega
                  obtain ⟨b, o, rfl, hb, hc⟩ := pair_at l HL.out (by omega)
                  have HCC : Hid (∀ W, Below B w0 W → W.cell? ⟨b, o + p * 2, none⟩ = some (.string (l[p]).1)) := hide (fun W hW => by
                    obtain ⟨b', o', hbo, _, hc'⟩ := pair_at l (HL.out.below (HB.out ▸ hW)) (by omega)
                    injection hbo with hbo
                    injection hbo with hb1 hb2
                    subst hb1 hb2
                    exact (hc' p hpl).1)
                  have OK := hide (tabB_ok l j)
                  have HTB : Hid (tabB l (j + 1) = if has (tabB l j) (l[p]).1 then tabB l j else put (tabB l j) (l[p]).1 (p : Int)) := hide (by
                    have hpp : p = l.length - 1 - j := by have := HN.out; omega
                    subst hpp
                    rw [tabB, List.getElem?_eq_getElem hpl]; rfl)
                  rw [hpi]
                  have HA := hide (show MI.At B (MI.tb B Ta v3 false (tabA l q) ++ (box tb (.cells #[MI.pt Tb] 33 (0, 0)) :: (MI.tb B Tb v5 false (tabB l j) ++ [box (B + 1) (.cells #[.bool false] 4 (0, 0)), box B (.cells #[.slice (some ⟨b, o, none⟩) q c] 22 (0, 0))]))) 4 3 Tb v5 false (tabB l j) from ⟨rfl, rfl, OK.out.hs, by have := OK.out.hn; omega⟩)
                  generalize (l[p]).1 = s1 at *
                  have q1 := HCC.out wr hL.below
                  have HPI := hide hpi
                  have hpq : p < q := by omega
                  have HPJ : Hid (p + j + 1 = q) := hide (by omega)
                  clear hc hL hp hpi
                  go_wp2_with fail
                  go_region_held3 (fun W => W.cell? ⟨tb, 0, none⟩ = some (MI.pt Tb) ∧ W.cell? ⟨B, 0, none⟩ = some (.slice (some ⟨b, o, none⟩) q c) ∧ W.cell? ⟨b, o + p * 2, none⟩ = some (.string s1)) (go_keep) ((go_at_call 18; refine (MI.get_any s1 HA.out H.out.drew).mono ?_; rintro e w5 ⟨rfl, S7⟩; obtain ⟨y0, _⟩ := cell1 (S7.out.get 6 rfl); obtain ⟨y1, _⟩ := cell1 (S7.out.get 2 rfl); have y2 := HCC.out w5 S7.out.below))
                  clear d0 g0 d1 g1 q1
                  generalize (MI.get (tabB l j) s1).1 = gv
                  have hg2 : (MI.get (tabB l j) s1).2 = has (tabB l j) s1 := by unfold MI.get; split <;> simp [*]
                  rw [hg2]
                  clear hg2
                  obtain ⟨hb0, hhb⟩ : ∃ h, h = has (tabB l j) s1 := ⟨_, rfl⟩
                  rw [← hhb]
                  have HHB := hide hhb
                  clear hhb H
                  cases hb0
                  · go_wp2_with fail
                    go_region_held3 (fun W => W.cell? ⟨tb, 0, none⟩ = some (MI.pt Tb) ∧ W.cell? ⟨B, 0, none⟩ = some (.slice (some ⟨b, o, none⟩) q c) ∧ W.cell? ⟨b, o + p * 2, none⟩ = some (.string s1)) (go_keep) ((go_at_call 21; refine (MI.set_any s1 (p : Int) HA.out S7.out.drew (by have := OK.out.hn; have := HPJ.out; omega)).mono ?_; rintro e w6 ⟨rfl, v6, S8⟩; obtain ⟨z0, _⟩ := cell1 (S8.out.get 6 rfl); obtain ⟨z1, _⟩ := cell1 (S8.out.get 2 rfl); have z2 := HCC.out w6 S8.out.below))
                    have H9 : Hid (Lie B w0 w6 (MI.tb B Ta v3 false (tabA l q) ++ (box tb (.cells #[MI.pt Tb] 33 (0, 0)) :: (MI.tb B Tb v6 false (tabB l (j + 1)) ++ [box (B + 1) (.cells #[.bool false] 4 (0, 0)), box B (.cells #[.slice (some ⟨b, o, none⟩) q c] 22 (0, 0))])))) := hide (by
                      rw [HTB.out, ← HHB.out]
                      exact S8.out)
                    clear S7 S8 z0 z1 z2
                    go_wp2_with fail
                    go_roundw
                    case rel => exact ⟨j + 1, by have := HPJ.out; omega, by have := HPJ.out; go_num, v6, H9.out⟩
                    case measure => simp [intOf]
                  · have H9 : Hid (Lie B w0 w5 (MI.tb B Ta v3 false (tabA l q) ++ (box tb (.cells #[MI.pt Tb] 33 (0, 0)) :: (MI.tb B Tb v5 false (tabB l (j + 1)) ++ [box (B + 1) (.cells #[.bool false] 4 (0, 0)), box B (.cells #[.slice (some ⟨b, o, none⟩) q c] 22 (0, 0))])))) := hide (by
                      rw [HTB.out, ← HHB.out]
                      exact S7.out)
                    clear S7
                    go_wp2_with fail
                    go_roundw
                    case rel => exact ⟨j + 1, by have := HPJ.out; omega, by have := HPJ.out; go_num, v5, H9.out⟩
                    case measure => simp [intOf]
                · obtain rfl : j = q := by omega
                  have OK : Hid (MI.Ok (tabA l j) 100) := hide ((tabA_ok l j).mono (by omega))
                  have TD : Hid (Told l (tabA l j)) := hide (by rw [HN.out]; exact told_A l)
                  have hs : tabB l j = tabA l j := by rw [HN.out]; exact tab_same l
                  rw [hs] at hL
                  have H2 := hide hL
                  clear hL H hs d0 g0 d1 g1
                  generalize tabA l j = xs at *
                  have S6 := hide (show Lie B w0 ((wr.alloc (.cells #[.string k0] 9)).alloc (.cells #[.int .i64 0] 3)) (MI.tb B Ta v3 false xs ++ [box tb (.cells #[MI.pt Tb] 33 (0, 0)), MI.rw_ B v5 xs, box Tb (MI.mobj v5 false), box (B + 1) (.cells #[.bool false] 4 (0, 0)), box B (.cells #[.slice A j c] 22 (0, 0)), box wr.heap.size (.cells #[.string k0] 9 (0, 0)), box (wr.heap.size + 1) (.cells #[.int .i64 0] 3 (0, 0))]) from by
                    have h := (H2.out.alloc (.cells #[.string k0] 9)).alloc (.cells #[.int .i64 0] 3)
                    rw [World.size_alloc] at h
                    exact h.sel [2, 3, 4, 5, 6, 7, 8, 1, 0] (by decide) rfl)
                  clear H2
                  go_wp2_with fail
                  obtain ⟨w6, hw6⟩ : ∃ w6, w6 = (wr.alloc (.cells #[.string k0] 9)).alloc (.cells #[.int .i64 0] 3) := ⟨_, rfl⟩
                  rw [← hw6] at S6 ⊢
                  obtain ⟨nt, hnt⟩ : ∃ nt, nt = wr.heap.size + 1 := ⟨_, rfl⟩
                  rw [← hnt] at S6 ⊢
                  generalize wr.heap.size = lt at *
                  clear hw6 hnt
                  refine (MI.from_tb (rest := [box tb (.cells #[MI.pt Tb] 33 (0, 0)), MI.rw_ B v5 xs, box Tb (MI.mobj v5 false), box (B + 1) (.cells #[.bool false] 4 (0, 0)), box B (.cells #[.slice A j c] 22 (0, 0)), box lt (.cells #[.string k0] 9 (0, 0)), box nt (.cells #[.int .i64 0] 3 (0, 0))]) k0 OK.out (by omega) S6.out).mono ?_
                  rintro e w7 ⟨lb, sl, rfl, HT, S7⟩
                  rw [MI.pos_empty] at HT
                  clear S6
                  go_wp2_with fail
                  refine wp_rangeFunc2 [(16, fun x => .string x.1), (17, fun x => MI.vv x.2)] (gf := 58) (lb := #[MI.pt lb]) rfl MI.enters1 (MI.iter_any B lb 0 sl v3 xs HT.out (by have := OK.out.hn; omega)) (SoI B Ta Tb tb v3 v5 xs lb sl (.slice A j c) lt nt) (fun _ _ _ => False) (fun pre js h => by rw [h]; exact ⟨.tail _ (.tail _ (.head _)), .head _⟩) (fun t js h => h.up t js) rfl S7.out ?assign ?body ?done ?stop
                  case assign =>
                    intro l m x W2 K hK
                    simp only [asgAct, List.foldl_cons, List.foldl_nil, List.setIfInBounds_toArray, List.set_cons_zero, List.set_cons_succ] at hK
                    gi_wp2
                    exact hK
                  case stop =>
                    rintro D c pre ks W2 _ h _
                    exact h.elim
                  case body =>
                    clear S7
                    rintro fl m2 pre x us ks W2 hpre rfl hL
                    obtain ⟨hget, hi, hxi⟩ := tail_get xs OK.out.hs 0 pre x (by rw [List.drop_zero]; exact hpre)
                    obtain ⟨p, hpl, hxp, hkx⟩ := TD.out x (by rw [← hxi]; exact List.getElem_mem hi)
                    have hpj : p < j := by have := HN.out; omega
                    obtain ⟨b, o, rfl, hb, hc⟩ := pair_at l (HL.out.below (HB.out ▸ hL.below)) (by omega)
                    obtain ⟨q1, _⟩ := hc p hpl
                    rw [hkx] at q1
                    have HGET := hide hget
                    have HLL := hide hL
                    obtain ⟨n0, m0⟩ := cell1 (hL.get 9 rfl)
                    obtain ⟨t0, s0⟩ := cell1 (hL.get 8 rfl)
                    obtain ⟨b0, _⟩ := cell1 (hL.get 3 rfl)
                    obtain ⟨a0, _⟩ := cell1 (hL.get 7 rfl)
                    have hpl2 : pre.length ≤ 100 := by have := OK.out.hn; omega
                    have HPL : Hid (lastK (pre ++ [x]) = x.1 ∧ (pre ++ [x]).length = pre.length + 1) := hide ⟨lastK_snoc pre x, by simp⟩
                    have e1 : (x.1.toList == x.1.toList) = true := by simp
                    by_cases hz : 0 < pre.length
                    · have hlk := lastK_below xs OK.out.hs pre x hpre hz
                      have e2 : (Op.bytesLess x.1.toList (lastK pre).toList || x.1.toList == (lastK pre).toList) = false := by
                        rw [str_lt, str_eq]
                        have h1 : ¬ kc x.1 (lastK pre) < 0 := fun h => kc_irrefl (kc_trans h hlk)
                        have h2 : ¬ x.1 = lastK pre := fun h => by rw [h, kc_self] at hlk; omega
                        simp [h1, h2]
                      clear hc hL hget hi hxi hpre hlk
                      generalize lastK pre = lk at *
                      generalize pre.length = pn at *
                      have hz2 : (0 : Int) < (pn : Int) := by omega
                      simp only [asgAct, List.foldl_cons, List.foldl_nil, List.setIfInBounds_toArray, List.set_cons_zero, List.set_cons_succ]
                      rw [hxp]
                      gi_wp2_with fail
                      refine ⟨trivial, fun h => (by cases h), ?_⟩
                      refine (CallsIn.inRound fl (callsIn_wide.2 (MI.get_any (j := 5) (k := 4) x.1 ⟨rfl, rfl, OK.out.hs, by have := OK.out.hn; omega⟩ HLL.out))).mono ?_
                      rintro e w8 ⟨rfl, L8⟩
                      rw [HGET.out, hxp]
                      obtain ⟨n1, m1⟩ := cell1 (L8.out.get 9 rfl)
                      obtain ⟨t1, s1⟩ := cell1 (L8.out.get 8 rfl)
                      have L9 := hide (L8.out.setBox 8 rfl 0 (.string x.1))
                      obtain ⟨n2, m2⟩ := cell1 (L9.out.get 9 rfl)
                      have L10 := hide (L9.out.setBox 9 rfl 0 (.int .i64 ((pn : Int) + 1)))
                      have e3 : ((p : Int) == (p : Int)) = true := by simp
                      clear n0 m0 t0 s0 b0 a0 q1 HLL
                      gi_wp2_with fail
                      refine ⟨_, rfl, ?_⟩
                      rw [HPL.out.1, HPL.out.2]
                      exact L10.out
                    · have hp0 : pre = [] := List.eq_nil_of_length_eq_zero (by omega)
                      subst hp0
                      clear hc hL hget hi hxi hpre hz
                      simp only [asgAct, List.foldl_cons, List.foldl_nil, List.setIfInBounds_toArray, List.set_cons_zero, List.set_cons_succ]
                      rw [hxp]
                      gi_wp2_with fail
                      refine ⟨trivial, fun h => (by cases h), ?_⟩
                      refine (CallsIn.inRound fl (callsIn_wide.2 (MI.get_any (j := 5) (k := 4) x.1 ⟨rfl, rfl, OK.out.hs, by have := OK.out.hn; omega⟩ HLL.out))).mono ?_
                      rintro e w8 ⟨rfl, L8⟩
                      rw [HGET.out, hxp]
                      obtain ⟨n1, m1⟩ := cell1 (L8.out.get 9 rfl)
                      obtain ⟨t1, s1⟩ := cell1 (L8.out.get 8 rfl)
                      have L9 := hide (L8.out.setBox 8 rfl 0 (.string x.1))
                      obtain ⟨n2, m2⟩ := cell1 (L9.out.get 9 rfl)
                      have L10 := hide (L9.out.setBox 9 rfl 0 (.int .i64 ((0 : Int) + 1)))
                      have e3 : ((p : Int) == (p : Int)) = true := by simp
                      clear n0 m0 t0 s0 b0 a0 q1 HLL
                      gi_wp2_with fail
                      refine ⟨_, rfl, ?_⟩
                      rw [HPL.out.1, HPL.out.2]
                      exact L10.out
                  case done =>
                    rintro D ks W2 rfl hL
                    have S8 := hide (show Lie B w0 W2 (MI.tb B Ta v3 true xs ++ [box tb (.cells #[MI.pt Tb] 33 (0, 0)), MI.rw_ B v5 xs, box Tb (MI.mobj v5 false), box (B + 1) (.cells #[.bool false] 4 (0, 0)), box B (.cells #[.slice A j c] 22 (0, 0)), box nt (.cells #[.int .i64 xs.length] 3 (0, 0)), box D (.deferred (some []))]) from hL.sel [1, 2, 4, 5, 6, 7, 8, 10, 0] (by decide) rfl)
                    clear S7 hL
                    have HA : Hid (∀ m, Calls Try.prog 19 #[MI.pt Ta] (W2.drewN m) fun e w' => e = .returned (.int .i64 (xs.length : Nat)) ∧ w' = W2.drewN m) := hide (fun m => len_q (j := 1) (k := 0) ⟨rfl, rfl, OK.out.hs, by have := OK.out.hn; omega⟩ (S8.out.drewN m))
                    have HT2 : Hid (∀ m, Calls Try.prog 19 #[MI.pt Tb] (W2.drewN m) fun e w' => e = .returned (.int .i64 (xs.length : Nat)) ∧ w' = W2.drewN m) := hide (fun m => len_q (j := 4) (k := 3) ⟨rfl, rfl, OK.out.hs, by have := OK.out.hn; omega⟩ (S8.out.drewN m))
                    obtain ⟨n0, m0⟩ := cell1 (S8.out.get 7 rfl)
                    obtain ⟨b0, _⟩ := cell1 (S8.out.get 2 rfl)
                    have e1 : ((xs.length : Int) != (xs.length : Int)) = false := by simp
                    go_wp2_with fail
                    go_quiet ((go_at_call 19; first | with_reducible exact Calls.quiet_of_same (HA.out _) | with_reducible exact Calls.quiet_of_same (HT2.out _)))
                    have S9 := hide (show Lie B w0 ((W2.drewN nq).alloc (.cells #[.int .i64 0] 3)) (MI.tb B Ta v3 true xs ++ [box (B + 1) (.cells #[.bool false] 4 (0, 0)), box B (.cells #[.slice A j c] 22 (0, 0)), box nt (.cells #[.int .i64 xs.length] 3 (0, 0)), box D (.deferred (some [])), box (W2.drewN nq).heap.size (.cells #[.int .i64 0] 3 (0, 0))]) from ((S8.out.drewN nq).alloc (.cells #[.int .i64 0] 3)).sel [1, 2, 6, 7, 8, 9, 0] (by decide) rfl)
                    clear S8 HA HT2 n0 m0 b0 e1
                    generalize W2.drewN nq = w9 at *
                    go_wp2_with fail
                    generalize w9.heap.size = bt at *
                    refine (MI.from_tb (rest := [box (B + 1) (.cells #[.bool false] 4 (0, 0)), box B (.cells #[.slice A j c] 22 (0, 0)), box nt (.cells #[.int .i64 xs.length] 3 (0, 0)), box D (.deferred (some [])), box bt (.cells #[.int .i64 0] 3 (0, 0))]) key OK.out (by omega) S9.out).mono ?_
                    rintro e w10 ⟨lb2, sl2, rfl, HT2, S10⟩
                    clear S9
                    go_wp2_with fail
                    refine wp_rangeFunc2 [] (gf := 58) (lb := #[MI.pt lb2]) rfl MI.enters1 (MI.iter_any B lb2 (pos xs key) sl2 v3 xs HT2.out (by have := OK.out.hn; omega)) (SoJ B Ta v3 xs lb2 sl2 (.slice A j c) nt D bt) (fun _ _ _ => False) (fun pre js h => by rw [h]; exact ⟨.tail _ (.tail _ (.head _)), .head _⟩) (fun t js h => h.up t js) rfl S10.out ?assign ?body ?done ?stop
                    case assign =>
                      intro fl m2 x W2 K hK
                      simp only [asgAct, List.foldl_nil, List.setIfInBounds_toArray, List.set_cons_zero, List.set_cons_succ] at hK
                      gi_wp2
                      simpa using hK
                    case stop =>
                      rintro Dx cx pre ks W2 _ h _
                      exact h.elim
                    case body =>
                      clear S10
                      rintro fl m2 pre x us ks W3 hpre rfl hL
                      have hpn : pre.length ≤ 100 := by have h1 := hpre.length_le; have h2 := OK.out.hn; simp at h1; omega
                      have HPL : Hid ((pre ++ [x]).length = pre.length + 1) := hide (by simp)
                      obtain ⟨z0, y0⟩ := cell1 (hL.get 7 rfl)
                      have L9 := hide (hL.setBox 7 rfl 0 (.int .i64 ((pre.length : Int) + 1)))
                      clear hL hpre
                      generalize pre.length = pn at *
                      simp only [asgAct, List.foldl_nil, List.setIfInBounds_toArray, List.set_cons_zero, List.set_cons_succ]
                      gi_wp2_with fail
                      refine ⟨_, rfl, ?_⟩
                      rw [HPL.out]
                      exact L9.out
                    case done =>
                      rintro D2 ks W4 rfl hL
                      have FL := hide (fl_is l xs OK.out.hs TD.out key)
                      have hbel : (xs.drop (pos xs key)).length = xs.length - pos xs key := List.length_drop
                      rw [← hbel] at FL
                      obtain ⟨below, hbe⟩ : ∃ b, b = (xs.drop (pos xs key)).length := ⟨_, rfl⟩
                      rw [← hbe] at FL hL
                      have hbl : below ≤ xs.length := by rw [hbe, hbel]; omega
                      have S11 := hide (show Lie B w0 W4 (MI.tb B Ta v3 true xs ++ [box (B + 1) (.cells #[.bool false] 4 (0, 0)), box B (.cells #[.slice A j c] 22 (0, 0)), box nt (.cells #[.int .i64 xs.length] 3 (0, 0)), box D (.deferred (some [])), box bt (.cells #[.int .i64 below] 3 (0, 0)), box D2 (.deferred (some []))]) from hL.sel [1, 2, 4, 5, 6, 7, 8, 0] (by decide) rfl)
                      clear hL S10 hbel hbe
                      go_wp2_with fail
                      refine (MI.floor_tb key OK.out (by omega) S11.out).mono ?_
                      rintro e w12 ⟨rfl, S12⟩
                      clear S11
                      generalize (MI.floor xs key).1 = fk at *
                      generalize (MI.floor xs key).2.1 = fv at *
                      generalize (MI.floor xs key).2.2 = fok at *
                      go_wp2_with fail
                      refine (MI.get_tb key OK.out (by omega) S12.out).mono ?_
                      rintro e w14 ⟨rfl, S13⟩
                      clear S12
                      generalize (MI.get xs key).1 = gv at *
                      generalize (MI.get xs key).2 = there at *
                      obtain ⟨n0, _⟩ := cell1 (S13.out.get 4 rfl)
                      obtain ⟨b0, _⟩ := cell1 (S13.out.get 6 rfl)
                      obtain ⟨r0, r1⟩ := cell1 (S13.out.get 2 rfl)
                      have hxn : xs.length ≤ 100 := by have := OK.out.hn; omega
                      have hw : IntKind.i64.wrap ((xs.length : Int) - (below : Int)) = (xs.length : Int) - (below : Int) := IntWalk.i64_in _ (by omega)
                      have hok := FL.out.hok
                      by_cases hd : ¬ xs.length ≤ below
                      · have hd2 : decide ((0 : Int) < (xs.length : Int) - (below : Int)) = true := decide_eq_true (by omega)
                        rw [hd2, Bool.true_or] at hok
                        subst hok
                        clear hd2
                        cases there with
                        | true =>
                          have S14 := hide (show Lie B w0 (w14.alloc (.cells #[.int .i64 0] 3)) (MI.tb B Ta v3 true xs ++ [box (B + 1) (.cells #[.bool false] 4 (0, 0)), box B (.cells #[.slice A j c] 22 (0, 0)), box nt (.cells #[.int .i64 xs.length] 3 (0, 0)), box D (.deferred (some [])), box bt (.cells #[.int .i64 below] 3 (0, 0)), box D2 (.deferred (some [])), box w14.heap.size (.cells #[.int .i64 0] 3 (0, 0))]) from (S13.out.alloc (.cells #[.int .i64 0] 3)).sel [1, 2, 3, 4, 5, 6, 7, 8, 0] (by decide) rfl)
                          go_wp2_with fail
                          generalize w14.heap.size = rt at *
                          refine (MI.from_tb (rest := [box (B + 1) (.cells #[.bool false] 4 (0, 0)), box B (.cells #[.slice A j c] 22 (0, 0)), box nt (.cells #[.int .i64 xs.length] 3 (0, 0)), box D (.deferred (some [])), box bt (.cells #[.int .i64 below] 3 (0, 0)), box D2 (.deferred (some [])), box rt (.cells #[.int .i64 0] 3 (0, 0))]) fk OK.out (by omega) S14.out).mono ?_
                          rintro e w15 ⟨lb3, sl3, rfl, HT3, S15⟩
                          clear S13 S14 n0 b0
                          go_wp2_with fail
                          refine wp_rangeFunc2 [] (gf := 58) (lb := #[MI.pt lb3]) rfl MI.enters1 (MI.iter_any B lb3 (pos xs fk) sl3 v3 xs HT3.out (by have := OK.out.hn; omega)) (SoK B Ta v3 xs lb3 sl3 (.slice A j c) nt D bt D2 rt below) (fun _ _ _ => False) (fun pre js h => by rw [h]; exact ⟨.tail _ (.tail _ (.head _)), .head _⟩) (fun t js h => h.up t js) rfl S15.out ?assign ?body ?done ?stop
                          case assign =>
                            intro fl m2 x W2 K hK
                            simp only [asgAct, List.foldl_nil, List.setIfInBounds_toArray, List.set_cons_zero, List.set_cons_succ] at hK
                            gi_wp2
                            simpa using hK
                          case stop =>
                            rintro Dx cx pre ks W2 _ h _
                            exact h.elim
                          case body =>
                            clear S15
                            rintro fl m2 pre x us ks W5 hpre rfl hL
                            have hpn : pre.length ≤ 100 := by have h1 := hpre.length_le; have h2 := OK.out.hn; simp at h1; omega
                            have HPL : Hid ((pre ++ [x]).length = pre.length + 1) := hide (by simp)
                            obtain ⟨z0, y0⟩ := cell1 (hL.get 9 rfl)
                            have L9 := hide (hL.setBox 9 rfl 0 (.int .i64 ((pre.length : Int) + 1)))
                            clear hL hpre
                            generalize pre.length = pn at *
                            simp only [asgAct, List.foldl_nil, List.setIfInBounds_toArray, List.set_cons_zero, List.set_cons_succ]
                            gi_wp2_with fail
                            refine ⟨_, rfl, ?_⟩
                            rw [HPL.out]
                            exact L9.out
                          case done =>
                            rintro D3 ks W6 rfl hL
                            obtain ⟨z0, _⟩ := cell1 (hL.get 8 rfl)
                            obtain ⟨z1, _⟩ := cell1 (hL.get 10 rfl)
                            obtain ⟨z2, z3⟩ := cell1 (hL.get 4 rfl)
                            obtain ⟨z4, _⟩ := cell1 (hL.get 5 rfl)
                            rw [List.length_drop] at z1
                            obtain ⟨k1, k2⟩ := FL.out.hth rfl
                            rw [k2] at z1
                            have e1 : (fk.toList == key.toList) = true := by rw [k1]; simp
                            have e2 : ((below : Int) == (below : Int)) = true := by simp
                            clear k1 k2
                            have F1 := hL.setBox 4 rfl 0 (.bool true)
                            have hK1 : _ = _ := F1.get 0 rfl
                            have F2 := F1.put 0 rfl (.deferred none)
                            have hK2 : _ = _ := F2.get 9 rfl
                            have F3 := F2.put 9 rfl (.deferred none)
                            have hK3 : _ = _ := F3.get 7 rfl
                            have F4 := F3.put 7 rfl (.deferred none)
                            obtain ⟨y0, _⟩ := cell1 (F4.get 4 rfl)
                            have HK1 := hide (run_takeDeferred (P := Try.prog) hK1)
                            have HK2 := hide (run_takeDeferred (P := Try.prog) hK2)
                            have HK3 := hide (run_takeDeferred (P := Try.prog) hK3)
                            have FB := hide F4.below
                            have Y0 := hide y0
                            clear hL F1 hK1 F2 hK2 F3 hK3 F4 y0 S15
                            go_wp2_with fail
                            refine ⟨by simp, .inl ⟨_, _, rfl, HK1.out, by simp, .inl ⟨_, _, rfl, HK2.out, by simp, .inl ⟨_, _, rfl, HK3.out, ?_⟩⟩⟩⟩
                            refine ⟨.bool true, ?_, rfl, FB.out⟩
                            have y0 := Y0.out
                            simp [results, Try.f4, go_sem, y0]
                        | false =>
                          have S14 := hide (show Lie B w0 (w14.alloc (.cells #[.int .i64 0] 3)) (MI.tb B Ta v3 true xs ++ [box (B + 1) (.cells #[.bool false] 4 (0, 0)), box B (.cells #[.slice A j c] 22 (0, 0)), box nt (.cells #[.int .i64 xs.length] 3 (0, 0)), box D (.deferred (some [])), box bt (.cells #[.int .i64 below] 3 (0, 0)), box D2 (.deferred (some [])), box w14.heap.size (.cells #[.int .i64 0] 3 (0, 0))]) from (S13.out.alloc (.cells #[.int .i64 0] 3)).sel [1, 2, 3, 4, 5, 6, 7, 8, 0] (by decide) rfl)
                          go_wp2_with fail
                          generalize w14.heap.size = rt at *
                          refine (MI.from_tb (rest := [box (B + 1) (.cells #[.bool false] 4 (0, 0)), box B (.cells #[.slice A j c] 22 (0, 0)), box nt (.cells #[.int .i64 xs.length] 3 (0, 0)), box D (.deferred (some [])), box bt (.cells #[.int .i64 below] 3 (0, 0)), box D2 (.deferred (some [])), box rt (.cells #[.int .i64 0] 3 (0, 0))]) fk OK.out (by omega) S14.out).mono ?_
                          rintro e w15 ⟨lb3, sl3, rfl, HT3, S15⟩
                          clear S13 S14 n0 b0
                          go_wp2_with fail
                          refine wp_rangeFunc2 [] (gf := 58) (lb := #[MI.pt lb3]) rfl MI.enters1 (MI.iter_any B lb3 (pos xs fk) sl3 v3 xs HT3.out (by have := OK.out.hn; omega)) (SoK B Ta v3 xs lb3 sl3 (.slice A j c) nt D bt D2 rt below) (fun _ _ _ => False) (fun pre js h => by rw [h]; exact ⟨.tail _ (.tail _ (.head _)), .head _⟩) (fun t js h => h.up t js) rfl S15.out ?assign ?body ?done ?stop
                          case assign =>
                            intro fl m2 x W2 K hK
                            simp only [asgAct, List.foldl_nil, List.setIfInBounds_toArray, List.set_cons_zero, List.set_cons_succ] at hK
                            gi_wp2
                            simpa using hK
                          case stop =>
                            rintro Dx cx pre ks W2 _ h _
                            exact h.elim
                          case body =>
                            clear S15
                            rintro fl m2 pre x us ks W5 hpre rfl hL
                            have hpn : pre.length ≤ 100 := by have h1 := hpre.length_le; have h2 := OK.out.hn; simp at h1; omega
                            have HPL : Hid ((pre ++ [x]).length = pre.length + 1) := hide (by simp)
                            obtain ⟨z0, y0⟩ := cell1 (hL.get 9 rfl)
                            have L9 := hide (hL.setBox 9 rfl 0 (.int .i64 ((pre.length : Int) + 1)))
                            clear hL hpre
                            generalize pre.length = pn at *
                            simp only [asgAct, List.foldl_nil, List.setIfInBounds_toArray, List.set_cons_zero, List.set_cons_succ]
                            gi_wp2_with fail
                            refine ⟨_, rfl, ?_⟩
                            rw [HPL.out]
                            exact L9.out
                          case done =>
                            rintro D3 ks W6 rfl hL
                            obtain ⟨z0, _⟩ := cell1 (hL.get 8 rfl)
                            obtain ⟨z1, _⟩ := cell1 (hL.get 10 rfl)
                            obtain ⟨z2, z3⟩ := cell1 (hL.get 4 rfl)
                            obtain ⟨z4, _⟩ := cell1 (hL.get 5 rfl)
                            rw [List.length_drop] at z1
                            obtain ⟨k1, ⟨p, hpl, kv, kk⟩, k2⟩ := FL.out.hno rfl rfl
                            rw [k2] at z1
                            have hpj : p < j := by have := HN.out; omega
                            obtain ⟨b, o, rfl, hb, hc⟩ := pair_at l (HL.out.below (HB.out ▸ hL.below)) (by omega)
                            obtain ⟨q1, _⟩ := hc p hpl
                            rw [kk] at q1
                            subst kv
                            have e1 : (fk.toList == fk.toList) = true := by simp
                            have e2 : (((below : Int) + 1) == ((below : Int) + 1)) = true := by simp
                            have e3 : (((below + 1 : Nat) : Int)) = (below : Int) + 1 := by omega
                            rw [e3] at z1
                            clear k2 hc kk e3
                            have F1 := hL.setBox 4 rfl 0 (.bool true)
                            have hK1 : _ = _ := F1.get 0 rfl
                            have F2 := F1.put 0 rfl (.deferred none)
                            have hK2 : _ = _ := F2.get 9 rfl
                            have F3 := F2.put 9 rfl (.deferred none)
                            have hK3 : _ = _ := F3.get 7 rfl
                            have F4 := F3.put 7 rfl (.deferred none)
                            obtain ⟨y0, _⟩ := cell1 (F4.get 4 rfl)
                            have HK1 := hide (run_takeDeferred (P := Try.prog) hK1)
                            have HK2 := hide (run_takeDeferred (P := Try.prog) hK2)
                            have HK3 := hide (run_takeDeferred (P := Try.prog) hK3)
                            have FB := hide F4.below
                            have Y0 := hide y0
                            clear hL F1 hK1 F2 hK2 F3 hK3 F4 y0 S15
                            go_wp2_with fail
                            refine ⟨by simp, .inl ⟨_, _, rfl, HK1.out, by simp, .inl ⟨_, _, rfl, HK2.out, by simp, .inl ⟨_, _, rfl, HK3.out, ?_⟩⟩⟩⟩
                            refine ⟨.bool true, ?_, rfl, FB.out⟩
                            have y0 := Y0.out
                            simp [results, Try.f4, go_sem, y0]
                      · have hd2 : decide ((0 : Int) < (xs.length : Int) - (below : Int)) = false := decide_eq_false (by omega)
                        rw [hd2, Bool.false_or] at hok
                        subst hok
                        have hd3 : xs.length ≤ below := by omega
                        clear hd2 hd
                        cases fok with
                        | true =>
                          have S14 := hide (show Lie B w0 (w14.alloc (.cells #[.int .i64 0] 3)) (MI.tb B Ta v3 true xs ++ [box (B + 1) (.cells #[.bool false] 4 (0, 0)), box B (.cells #[.slice A j c] 22 (0, 0)), box nt (.cells #[.int .i64 xs.length] 3 (0, 0)), box D (.deferred (some [])), box bt (.cells #[.int .i64 below] 3 (0, 0)), box D2 (.deferred (some [])), box w14.heap.size (.cells #[.int .i64 0] 3 (0, 0))]) from (S13.out.alloc (.cells #[.int .i64 0] 3)).sel [1, 2, 3, 4, 5, 6, 7, 8, 0] (by decide) rfl)
                          go_wp2_with fail
                          generalize w14.heap.size = rt at *
                          refine (MI.from_tb (rest := [box (B + 1) (.cells #[.bool false] 4 (0, 0)), box B (.cells #[.slice A j c] 22 (0, 0)), box nt (.cells #[.int .i64 xs.length] 3 (0, 0)), box D (.deferred (some [])), box bt (.cells #[.int .i64 below] 3 (0, 0)), box D2 (.deferred (some [])), box rt (.cells #[.int .i64 0] 3 (0, 0))]) fk OK.out (by omega) S14.out).mono ?_
                          rintro e w15 ⟨lb3, sl3, rfl, HT3, S15⟩
                          clear S13 S14 n0 b0
                          go_wp2_with fail
                          refine wp_rangeFunc2 [] (gf := 58) (lb := #[MI.pt lb3]) rfl MI.enters1 (MI.iter_any B lb3 (pos xs fk) sl3 v3 xs HT3.out (by have := OK.out.hn; omega)) (SoK B Ta v3 xs lb3 sl3 (.slice A j c) nt D bt D2 rt below) (fun _ _ _ => False) (fun pre js h => by rw [h]; exact ⟨.tail _ (.tail _ (.head _)), .head _⟩) (fun t js h => h.up t js) rfl S15.out ?assign ?body ?done ?stop
                          case assign =>
                            intro fl m2 x W2 K hK
                            simp only [asgAct, List.foldl_nil, List.setIfInBounds_toArray, List.set_cons_zero, List.set_cons_succ] at hK
                            gi_wp2
                            simpa using hK
                          case stop =>
                            rintro Dx cx pre ks W2 _ h _
                            exact h.elim
                          case body =>
                            clear S15
                            rintro fl m2 pre x us ks W5 hpre rfl hL
                            have hpn : pre.length ≤ 100 := by have h1 := hpre.length_le; have h2 := OK.out.hn; simp at h1; omega
                            have HPL : Hid ((pre ++ [x]).length = pre.length + 1) := hide (by simp)
                            obtain ⟨z0, y0⟩ := cell1 (hL.get 9 rfl)
                            have L9 := hide (hL.setBox 9 rfl 0 (.int .i64 ((pre.length : Int) + 1)))
                            clear hL hpre
                            generalize pre.length = pn at *
                            simp only [asgAct, List.foldl_nil, List.setIfInBounds_toArray, List.set_cons_zero, List.set_cons_succ]
                            gi_wp2_with fail
                            refine ⟨_, rfl, ?_⟩
                            rw [HPL.out]
                            exact L9.out
                          case done =>
                            rintro D3 ks W6 rfl hL
                            obtain ⟨z0, _⟩ := cell1 (hL.get 8 rfl)
                            obtain ⟨z1, _⟩ := cell1 (hL.get 10 rfl)
                            obtain ⟨z2, z3⟩ := cell1 (hL.get 4 rfl)
                            obtain ⟨z4, _⟩ := cell1 (hL.get 5 rfl)
                            rw [List.length_drop] at z1
                            obtain ⟨k1, k2⟩ := FL.out.hth rfl
                            rw [k2] at z1
                            have e1 : (fk.toList == key.toList) = true := by rw [k1]; simp
                            have e2 : ((below : Int) == (below : Int)) = true := by simp
                            clear k1 k2
                            have F1 := hL.setBox 4 rfl 0 (.bool true)
                            have hK1 : _ = _ := F1.get 0 rfl
                            have F2 := F1.put 0 rfl (.deferred none)
                            have hK2 : _ = _ := F2.get 9 rfl
                            have F3 := F2.put 9 rfl (.deferred none)
                            have hK3 : _ = _ := F3.get 7 rfl
                            have F4 := F3.put 7 rfl (.deferred none)
                            obtain ⟨y0, _⟩ := cell1 (F4.get 4 rfl)
                            have HK1 := hide (run_takeDeferred (P := Try.prog) hK1)
                            have HK2 := hide (run_takeDeferred (P := Try.prog) hK2)
                            have HK3 := hide (run_takeDeferred (P := Try.prog) hK3)
                            have FB := hide F4.below
                            have Y0 := hide y0
                            clear hL F1 hK1 F2 hK2 F3 hK3 F4 y0 S15
                            go_wp2_with fail
                            refine ⟨by simp, .inl ⟨_, _, rfl, HK1.out, by simp, .inl ⟨_, _, rfl, HK2.out, by simp, .inl ⟨_, _, rfl, HK3.out, ?_⟩⟩⟩⟩
                            refine ⟨.bool true, ?_, rfl, FB.out⟩
                            have y0 := Y0.out
                            simp [results, Try.f4, go_sem, y0]
                        | false =>
                          have F1 := S13.out.setBox 2 rfl 0 (.bool true)
                          have hK1 : _ = _ := F1.get 7 rfl
                          have F2 := F1.put 7 rfl (.deferred none)
                          have hK2 : _ = _ := F2.get 5 rfl
                          have F3 := F2.put 5 rfl (.deferred none)
                          obtain ⟨y0, _⟩ := cell1 (F3.get 2 rfl)
                          have HK1 := hide (run_takeDeferred (P := Try.prog) hK1)
                          have HK2 := hide (run_takeDeferred (P := Try.prog) hK2)
                          have FB := hide F3.below
                          have Y0 := hide y0
                          clear F1 hK1 F2 hK2 F3 y0
                          go_wp2_with fail
                          refine ⟨by simp, .inl ⟨_, _, rfl, HK1.out, by simp, .inl ⟨_, _, rfl, HK2.out, ?_⟩⟩⟩
                          refine ⟨.bool true, ?_, rfl, FB.out⟩
                          have y0 := Y0.out
                          simp [results, Try.f4, go_sem, y0]
end Go.Proofs.Ytcaeechlpadboaa
