/-
  TopBytes, walked. (Printed by mktop.py.)
-/
import Derived.Test.YtnljdcghaecdaaaGreatDoorWak
import Derived.Test.YtnljdcghaecdaaaGreatDoorSam
import Derived.Test.YtnljdcghaecdaaaGreatDoorLet
namespace Go.Proofs.YtnljdcghaecdaaaGreatDoor
open Go.RowKit Go.Lib Go.Maps
attribute [local go_sem] Oper.semAt_some

theorem letr_eq {l k : Letr} (h0 : l.kind = k.kind) (h1 : l.frm = k.frm) (h2 : l.to = k.to) (h3 : (l.seq : Int) = k.seq) (h4 : l.key.toList = k.key.toList) (h5 : (l.print : Int) = k.print) (h6 : l.srv.toList = k.srv.toList) (h7 : l.mth.toList = k.mth.toList) (h8 : l.code = k.code) (h9 : l.body.toList = k.body.toList) : l = k := by
  have S : ∀ a b : ByteArray, a.toList = b.toList → a = b := fun a b h => by
    have e := str_eq a b
    rw [h] at e
    simpa using e
  have e3 : l.seq = k.seq := by omega
  have e4 := S _ _ h4
  have e5 : l.print = k.print := by omega
  have e6 := S _ _ h6
  have e7 := S _ _ h7
  have e9 := S _ _ h9
  clear h3 h4 h5 h6 h7 h9 S
  cases l
  cases k
  simp only at h0 h1 h2 e3 e4 e5 e6 e7 h8 e9
  subst h0 h1 h2 e3 e4 e5 e6 e7 h8 e9
  rfl
def TrueT (w : World) (e : Ending) (w' : World) : Prop := e = .returned (.bool true) ∧ Turn (fun _ => False) w w'
set_option maxRecDepth 100000 in
set_option maxHeartbeats 16000000 in
theorem top_any (s : SchD) (tv nv mv : Value) (ts : List SortD) (ns ms : List NodeD) (l k : Letr) (w : World) (h : SchAt w s) (ht : SortsAt w tv ts) (hn : NodesAt w nv ns) (hm : NodesAt w mv ms) (hk : Kw w)
    (hin : ∀ x ∈ ns, In64 x.num ∧ In64 x.kids) (him : ∀ x ∈ ms, In64 x.num ∧ In64 x.kids) (hl1 : l.seq < 18446744073709551616) (hl2 : l.print < 18446744073709551616) (hk1 : k.seq < 18446744073709551616) (hk2 : k.print < 18446744073709551616) :
    Calls Tryz.prog 3 #[schv s, tv, nv, mv, lagg l, lagg k] w (TrueT w) := by
  obtain ⟨w1, r6, B6, HW1, HR6, HB6, S1⟩ := lay (hide (Lie.start w)) (.cells #[.string s.name, s.rv, s.vv, s.gv] 26)
  obtain ⟨w2, r10, B10, HW2, HR10, HB10, S2⟩ := lay S1 (.cells (lcells l).toArray 32)
  obtain ⟨w3, r11, B11, HW3, HR11, HB11, S3⟩ := lay S2 (.cells (lcells k).toArray 32)
  rw [HB6.out, HB10.out, HB11.out] at S3
  have e10 : r6 + 1 = r10 := by rw [HR10.out, HW1.out, HR6.out]; simp
  have e11 : r10 + 1 = r11 := by rw [HR11.out, HW2.out, HR10.out]; simp
  have e12 : r6 + 1 + 1 = r11 := by rw [e10, e11]
  obtain ⟨_, _, er⟩ := h.rs.1.shape
  obtain ⟨_, _, ev⟩ := h.vs.1.shape
  obtain ⟨_, _, eg⟩ := h.gs.1.shape
  obtain ⟨At0, ct0, et⟩ := ht.1.shape
  have G15 := hide (fun (v : Value) (xs : List NodeD) (hx : NodesAt w v xs) (w' : World) (t : Turn (fun _ => False) w w') => great15_any s tv v ts xs w' (h.on t) (ht.on t) (hx.on t))
  have HE := hide h
  have HTS := hide ht
  have HN := hide hn
  have HM := hide hm
  have HK := hide hk
  have HI := hide hin
  have HJ := hide him
  clear h ht hn hm hk hin him er ev eg et
  go_enter Tryz.func3, Tryz.ntmps3
  go_upto_region 1 with (fail)
  rw [← HW1.out, ← HR6.out]
  rw [show w1.alloc (.cells #[.int .u8 l.kind, .int .i64 l.frm, .int .i64 l.to, .int .u64 l.seq, .string l.key, .int .u64 l.print, .string l.srv, .string l.mth, .int .i64 l.code, .string l.body] 32) = w2 from HW2.out.symm]
  rw [show w2.alloc (.cells #[.int .u8 k.kind, .int .i64 k.frm, .int .i64 k.to, .int .u64 k.seq, .string k.key, .int .u64 k.print, .string k.srv, .string k.mth, .int .i64 k.code, .string k.body] 32) = w3 from HW3.out.symm]
  rw [e12, e10]
  clear e10 e11 e12 HW1 HW2 HW3 HR6 HR10 HR11 HB6 HB10 HB11 S1 S2
  obtain ⟨c0, c1, c2, c3⟩ := cell4 (S3.out.get 2 rfl)
  have CC := hide (G15.out nv ns HN.out _ (lie_turn S3))
  go_wp2_with fail
  refine CC.out.mono ?_
  rintro e wc0 ⟨b, rfl, hb0, TT⟩
  have G0 := hide (S3.out.stay TT)
  clear CC TT c0 c1 c2 c3
  cases b with
  | true =>
    have CWK := hide (wakes_any _ (kw_on HK (lie_turn G0)))
    go_wp2_with fail
    refine CWK.out.mono ?_
    rintro e wz ⟨rfl, TZ⟩
    go_wp2_with fail
    go_ret
    exact ⟨rfl, (lie_turn G0).step TZ (fun _ _ h => h)⟩
  | false =>
    have HG0 := hide (hb0 rfl)
    clear hb0
    obtain ⟨c0, c1, c2, c3⟩ := cell4 (G0.out.get 2 rfl)
    have CC := hide (G15.out mv ms HM.out _ (lie_turn G0))
    go_wp2_with fail
    refine CC.out.mono ?_
    rintro e wc1 ⟨b, rfl, hb1, TT⟩
    have G1 := hide (G0.out.stay TT)
    clear CC TT c0 c1 c2 c3
    cases b with
    | true =>
      have CWK := hide (wakes_any _ (kw_on HK (lie_turn G1)))
      go_wp2_with fail
      refine CWK.out.mono ?_
      rintro e wz ⟨rfl, TZ⟩
      go_wp2_with fail
      go_ret
      exact ⟨rfl, (lie_turn G1).step TZ (fun _ _ h => h)⟩
    | false =>
      have HG1 := hide (hb1 rfl)
      clear hb1
      obtain ⟨c0, c1, c2, c3, c4, c5, c6, c7, c8, c9⟩ := lcell (G1.out.get 1 rfl)
      have CC := hide (great17_any l wc1)
      go_wp2_with fail
      refine CC.out.mono ?_
      rintro e wc2 ⟨b, rfl, TT⟩
      have G2 := hide (G1.out.stay TT)
      clear CC TT c0 c1 c2 c3 c4 c5 c6 c7 c8 c9
      cases b with
      | true =>
        have CWK := hide (wakes_any _ (kw_on HK (lie_turn G2)))
        go_wp2_with fail
        refine CWK.out.mono ?_
        rintro e wz ⟨rfl, TZ⟩
        go_wp2_with fail
        go_ret
        exact ⟨rfl, (lie_turn G2).step TZ (fun _ _ h => h)⟩
      | false =>
        obtain ⟨c0, c1, c2, c3, c4, c5, c6, c7, c8, c9⟩ := lcell (G2.out.get 0 rfl)
        have CC := hide (great17_any k wc2)
        go_wp2_with fail
        refine CC.out.mono ?_
        rintro e wc3 ⟨b, rfl, TT⟩
        have G3 := hide (G2.out.stay TT)
        clear CC TT c0 c1 c2 c3 c4 c5 c6 c7 c8 c9
        cases b with
        | true =>
          have CWK := hide (wakes_any _ (kw_on HK (lie_turn G3)))
          go_wp2_with fail
          refine CWK.out.mono ?_
          rintro e wz ⟨rfl, TZ⟩
          go_wp2_with fail
          go_ret
          exact ⟨rfl, (lie_turn G3).step TZ (fun _ _ h => h)⟩
        | false =>
          obtain ⟨c0, c1, c2, c3⟩ := cell4 (G3.out.get 2 rfl)
          have CC := hide (encode_any s tv nv ts ns wc3 (HE.out.on (lie_turn G3)) HG0.out.sch (HTS.out.on (lie_turn G3)) HG0.out.ts HG0.out.nt (kw_on HK (lie_turn G3)) (HN.out.on (lie_turn G3)) HG0.out.nn HG0.out.ns (fun f => tys_ok f.tys HI.out))
          go_wp2_with fail
          refine CC.out.mono ?_
          rintro e wd ⟨z1, n1, rfl, hz1, TT⟩
          have G4 := hide (G3.out.stay TT)
          have HZ1 := hide hz1
          clear CC TT c0 c1 c2 c3 hz1
          obtain ⟨c0, c1, c2, c3⟩ := cell4 (G4.out.get 2 rfl)
          have CC := hide (encode_any s tv mv ts ms wd (HE.out.on (lie_turn G4)) HG1.out.sch (HTS.out.on (lie_turn G4)) HG1.out.ts HG1.out.nt (kw_on HK (lie_turn G4)) (HM.out.on (lie_turn G4)) HG1.out.nn HG1.out.ns (fun f => tys_ok f.tys HJ.out))
          go_wp2_with fail
          refine CC.out.mono ?_
          rintro e we ⟨z2, n2, rfl, hz2, TT⟩
          have G5 := hide (G4.out.stay TT)
          have HZ2 := hide hz2
          clear CC TT c0 c1 c2 c3 hz2
          by_cases h1 : n1 = 0
          · obtain ⟨hf1, hs1⟩ := HZ1.out h1
            have b1 : (n1 == 0) = true := by simp [h1]
            by_cases h2 : n2 = 0
            · obtain ⟨hf2, hs2⟩ := HZ2.out h2
              have b2 : (n2 == 0) = true := by simp [h2]
              obtain ⟨q, hq⟩ : ∃ q, q = decide (z1 = z2) := ⟨_, rfl⟩
              have hqe : (z1.toList == z2.toList) = q := by rw [str_eq, hq]
              have hqi : q = true ↔ ns = ms := by rw [hq, decide_eq_true_eq, hs1, hs2]; exact value_law hf1 hf2 HI.out HJ.out
              have CS := hide (same_any nv mv ns ms we (HN.out.on (lie_turn G5)) (HM.out.on (lie_turn G5)) (Nat.le_trans HG0.out.nn (by omega)) (Nat.le_trans HG1.out.nn (by omega)) q hqi)
              have HQ := hide hqi
              clear hq hs1 hs2 hf1 hf2 HZ1 HZ2 hqi h1 h2
              go_wp2_with fail
              refine CS.out.mono ?_
              rintro e wf ⟨rfl, dd, rfl⟩
              have G6 := hide (G5.out.drewN dd)
              generalize we.drewN dd = wf at *
              have hqq : (q != q) = false := by simp
              obtain ⟨c0, c1, c2, c3, c4, c5, c6, c7, c8, c9⟩ := lcell (G6.out.get 1 rfl)
              have CC := hide (pack_any l wf (kw_on HK (lie_turn G6)) hl1 hl2)
              go_wp2_with fail
              refine CC.out.mono ?_
              rintro e wg ⟨rfl | ⟨HR1, rfl⟩, TT⟩
              · have G7 := hide (G6.out.stay TT)
                clear CC TT c0 c1 c2 c3 c4 c5 c6 c7 c8 c9
                obtain ⟨c0, c1, c2, c3, c4, c5, c6, c7, c8, c9⟩ := lcell (G7.out.get 0 rfl)
                have CC := hide (pack_any k wg (kw_on HK (lie_turn G7)) hk1 hk2)
                go_wp2_with fail
                refine CC.out.mono ?_
                rintro e wh ⟨rfl | ⟨HR2, rfl⟩, TT⟩
                · have G8 := hide (G7.out.stay TT)
                  clear CC TT c0 c1 c2 c3 c4 c5 c6 c7 c8 c9
                  have CWK := hide (wakes_any _ (kw_on HK (lie_turn G8)))
                  go_wp2_with fail
                  refine CWK.out.mono ?_
                  rintro e wz ⟨rfl, TZ⟩
                  go_wp2_with fail
                  go_ret
                  exact ⟨rfl, (lie_turn G8).step TZ (fun _ _ h => h)⟩
                · have G8 := hide (G7.out.stay TT)
                  have HRR2 := hide HR2
                  clear CC TT c0 c1 c2 c3 c4 c5 c6 c7 c8 c9 HR2
                  have CWK := hide (wakes_any _ (kw_on HK (lie_turn G8)))
                  go_wp2_with fail
                  refine CWK.out.mono ?_
                  rintro e wz ⟨rfl, TZ⟩
                  go_wp2_with fail
                  go_ret
                  exact ⟨rfl, (lie_turn G8).step TZ (fun _ _ h => h)⟩
              · have G7 := hide (G6.out.stay TT)
                have HRR1 := hide HR1
                clear CC TT c0 c1 c2 c3 c4 c5 c6 c7 c8 c9 HR1
                obtain ⟨c0, c1, c2, c3, c4, c5, c6, c7, c8, c9⟩ := lcell (G7.out.get 0 rfl)
                have CC := hide (pack_any k wg (kw_on HK (lie_turn G7)) hk1 hk2)
                go_wp2_with fail
                refine CC.out.mono ?_
                rintro e wh ⟨rfl | ⟨HR2, rfl⟩, TT⟩
                · have G8 := hide (G7.out.stay TT)
                  clear CC TT c0 c1 c2 c3 c4 c5 c6 c7 c8 c9
                  have CWK := hide (wakes_any _ (kw_on HK (lie_turn G8)))
                  go_wp2_with fail
                  refine CWK.out.mono ?_
                  rintro e wz ⟨rfl, TZ⟩
                  go_wp2_with fail
                  go_ret
                  exact ⟨rfl, (lie_turn G8).step TZ (fun _ _ h => h)⟩
                · have G8 := hide (G7.out.stay TT)
                  have HRR2 := hide HR2
                  clear CC TT c0 c1 c2 c3 c4 c5 c6 c7 c8 c9 HR2
                  obtain ⟨u, hu⟩ : ∃ u, u = strOfNums (packB l) := ⟨_, rfl⟩
                  obtain ⟨v, hv⟩ : ∃ v, v = strOfNums (packB k) := ⟨_, rfl⟩
                  have hfr : u = v ↔ l = k := by rw [hu, hv]; exact pack_free l k HRR1.out HRR2.out hl2 hk2
                  rw [← hu, ← hv]
                  clear hu hv
                  by_cases hlk : l = k
                  · have huv : u = v := hfr.2 hlk
                    subst hlk huv
                    have euv : (u.toList == u.toList) = true := by simp
                    obtain ⟨c0, c1, c2, c3, c4, c5, c6, c7, c8, c9⟩ := lcell (G8.out.get 1 rfl)
                    obtain ⟨d0, d1, d2, d3, d4, d5, d6, d7, d8, d9⟩ := lcell (G8.out.get 0 rfl)
                    have CWK := hide (wakes_any _ (kw_on HK (lie_turn G8)))
                    go_wp2_with fail
                    refine CWK.out.mono ?_
                    rintro e wz ⟨rfl, TZ⟩
                    go_wp2_with fail
                    go_ret
                    exact ⟨rfl, (lie_turn G8).step TZ (fun _ _ h => h)⟩
                  · have huv : u ≠ v := fun e => hlk (hfr.1 e)
                    have euv : (u.toList == v.toList) = false := by rw [str_eq]; exact decide_eq_false huv
                    have HLK := hide hlk
                    clear hfr hlk huv
                    obtain ⟨c0, c1, c2, c3, c4, c5, c6, c7, c8, c9⟩ := lcell (G8.out.get 1 rfl)
                    obtain ⟨d0, d1, d2, d3, d4, d5, d6, d7, d8, d9⟩ := lcell (G8.out.get 0 rfl)
                    have CWK := hide (wakes_any _ (kw_on HK (lie_turn G8)))
                    go_wp2_with fail
                    all_goals first
                      | exact absurd (letr_eq (by assumption) (by assumption) (by assumption) (by assumption) (by assumption) (by assumption) (by assumption) (by assumption) (by assumption) (by assumption)) HLK.out
                      | (refine CWK.out.mono ?_; rintro e wz ⟨rfl, TZ⟩; go_wp2_with fail; go_ret; exact ⟨rfl, (lie_turn G8).step TZ (fun _ _ h => h)⟩)
            · have b2 : (n2 == 0) = false := by simp [h2]
              have G6 := G5
              clear HZ1 HZ2 h1 h2
              obtain ⟨c0, c1, c2, c3, c4, c5, c6, c7, c8, c9⟩ := lcell (G6.out.get 1 rfl)
              have CC := hide (pack_any l we (kw_on HK (lie_turn G6)) hl1 hl2)
              go_wp2_with fail
              refine CC.out.mono ?_
              rintro e wg ⟨rfl | ⟨HR1, rfl⟩, TT⟩
              · have G7 := hide (G6.out.stay TT)
                clear CC TT c0 c1 c2 c3 c4 c5 c6 c7 c8 c9
                obtain ⟨c0, c1, c2, c3, c4, c5, c6, c7, c8, c9⟩ := lcell (G7.out.get 0 rfl)
                have CC := hide (pack_any k wg (kw_on HK (lie_turn G7)) hk1 hk2)
                go_wp2_with fail
                refine CC.out.mono ?_
                rintro e wh ⟨rfl | ⟨HR2, rfl⟩, TT⟩
                · have G8 := hide (G7.out.stay TT)
                  clear CC TT c0 c1 c2 c3 c4 c5 c6 c7 c8 c9
                  have CWK := hide (wakes_any _ (kw_on HK (lie_turn G8)))
                  go_wp2_with fail
                  refine CWK.out.mono ?_
                  rintro e wz ⟨rfl, TZ⟩
                  go_wp2_with fail
                  go_ret
                  exact ⟨rfl, (lie_turn G8).step TZ (fun _ _ h => h)⟩
                · have G8 := hide (G7.out.stay TT)
                  have HRR2 := hide HR2
                  clear CC TT c0 c1 c2 c3 c4 c5 c6 c7 c8 c9 HR2
                  have CWK := hide (wakes_any _ (kw_on HK (lie_turn G8)))
                  go_wp2_with fail
                  refine CWK.out.mono ?_
                  rintro e wz ⟨rfl, TZ⟩
                  go_wp2_with fail
                  go_ret
                  exact ⟨rfl, (lie_turn G8).step TZ (fun _ _ h => h)⟩
              · have G7 := hide (G6.out.stay TT)
                have HRR1 := hide HR1
                clear CC TT c0 c1 c2 c3 c4 c5 c6 c7 c8 c9 HR1
                obtain ⟨c0, c1, c2, c3, c4, c5, c6, c7, c8, c9⟩ := lcell (G7.out.get 0 rfl)
                have CC := hide (pack_any k wg (kw_on HK (lie_turn G7)) hk1 hk2)
                go_wp2_with fail
                refine CC.out.mono ?_
                rintro e wh ⟨rfl | ⟨HR2, rfl⟩, TT⟩
                · have G8 := hide (G7.out.stay TT)
                  clear CC TT c0 c1 c2 c3 c4 c5 c6 c7 c8 c9
                  have CWK := hide (wakes_any _ (kw_on HK (lie_turn G8)))
                  go_wp2_with fail
                  refine CWK.out.mono ?_
                  rintro e wz ⟨rfl, TZ⟩
                  go_wp2_with fail
                  go_ret
                  exact ⟨rfl, (lie_turn G8).step TZ (fun _ _ h => h)⟩
                · have G8 := hide (G7.out.stay TT)
                  have HRR2 := hide HR2
                  clear CC TT c0 c1 c2 c3 c4 c5 c6 c7 c8 c9 HR2
                  obtain ⟨u, hu⟩ : ∃ u, u = strOfNums (packB l) := ⟨_, rfl⟩
                  obtain ⟨v, hv⟩ : ∃ v, v = strOfNums (packB k) := ⟨_, rfl⟩
                  have hfr : u = v ↔ l = k := by rw [hu, hv]; exact pack_free l k HRR1.out HRR2.out hl2 hk2
                  rw [← hu, ← hv]
                  clear hu hv
                  by_cases hlk : l = k
                  · have huv : u = v := hfr.2 hlk
                    subst hlk huv
                    have euv : (u.toList == u.toList) = true := by simp
                    obtain ⟨c0, c1, c2, c3, c4, c5, c6, c7, c8, c9⟩ := lcell (G8.out.get 1 rfl)
                    obtain ⟨d0, d1, d2, d3, d4, d5, d6, d7, d8, d9⟩ := lcell (G8.out.get 0 rfl)
                    have CWK := hide (wakes_any _ (kw_on HK (lie_turn G8)))
                    go_wp2_with fail
                    refine CWK.out.mono ?_
                    rintro e wz ⟨rfl, TZ⟩
                    go_wp2_with fail
                    go_ret
                    exact ⟨rfl, (lie_turn G8).step TZ (fun _ _ h => h)⟩
                  · have huv : u ≠ v := fun e => hlk (hfr.1 e)
                    have euv : (u.toList == v.toList) = false := by rw [str_eq]; exact decide_eq_false huv
                    have HLK := hide hlk
                    clear hfr hlk huv
                    obtain ⟨c0, c1, c2, c3, c4, c5, c6, c7, c8, c9⟩ := lcell (G8.out.get 1 rfl)
                    obtain ⟨d0, d1, d2, d3, d4, d5, d6, d7, d8, d9⟩ := lcell (G8.out.get 0 rfl)
                    have CWK := hide (wakes_any _ (kw_on HK (lie_turn G8)))
                    go_wp2_with fail
                    all_goals first
                      | exact absurd (letr_eq (by assumption) (by assumption) (by assumption) (by assumption) (by assumption) (by assumption) (by assumption) (by assumption) (by assumption) (by assumption)) HLK.out
                      | (refine CWK.out.mono ?_; rintro e wz ⟨rfl, TZ⟩; go_wp2_with fail; go_ret; exact ⟨rfl, (lie_turn G8).step TZ (fun _ _ h => h)⟩)
          · have b1 : (n1 == 0) = false := by simp [h1]
            have G6 := G5
            clear HZ1 HZ2 h1
            obtain ⟨c0, c1, c2, c3, c4, c5, c6, c7, c8, c9⟩ := lcell (G6.out.get 1 rfl)
            have CC := hide (pack_any l we (kw_on HK (lie_turn G6)) hl1 hl2)
            go_wp2_with fail
            refine CC.out.mono ?_
            rintro e wg ⟨rfl | ⟨HR1, rfl⟩, TT⟩
            · have G7 := hide (G6.out.stay TT)
              clear CC TT c0 c1 c2 c3 c4 c5 c6 c7 c8 c9
              obtain ⟨c0, c1, c2, c3, c4, c5, c6, c7, c8, c9⟩ := lcell (G7.out.get 0 rfl)
              have CC := hide (pack_any k wg (kw_on HK (lie_turn G7)) hk1 hk2)
              go_wp2_with fail
              refine CC.out.mono ?_
              rintro e wh ⟨rfl | ⟨HR2, rfl⟩, TT⟩
              · have G8 := hide (G7.out.stay TT)
                clear CC TT c0 c1 c2 c3 c4 c5 c6 c7 c8 c9
                have CWK := hide (wakes_any _ (kw_on HK (lie_turn G8)))
                go_wp2_with fail
                refine CWK.out.mono ?_
                rintro e wz ⟨rfl, TZ⟩
                go_wp2_with fail
                go_ret
                exact ⟨rfl, (lie_turn G8).step TZ (fun _ _ h => h)⟩
              · have G8 := hide (G7.out.stay TT)
                have HRR2 := hide HR2
                clear CC TT c0 c1 c2 c3 c4 c5 c6 c7 c8 c9 HR2
                have CWK := hide (wakes_any _ (kw_on HK (lie_turn G8)))
                go_wp2_with fail
                refine CWK.out.mono ?_
                rintro e wz ⟨rfl, TZ⟩
                go_wp2_with fail
                go_ret
                exact ⟨rfl, (lie_turn G8).step TZ (fun _ _ h => h)⟩
            · have G7 := hide (G6.out.stay TT)
              have HRR1 := hide HR1
              clear CC TT c0 c1 c2 c3 c4 c5 c6 c7 c8 c9 HR1
              obtain ⟨c0, c1, c2, c3, c4, c5, c6, c7, c8, c9⟩ := lcell (G7.out.get 0 rfl)
              have CC := hide (pack_any k wg (kw_on HK (lie_turn G7)) hk1 hk2)
              go_wp2_with fail
              refine CC.out.mono ?_
              rintro e wh ⟨rfl | ⟨HR2, rfl⟩, TT⟩
              · have G8 := hide (G7.out.stay TT)
                clear CC TT c0 c1 c2 c3 c4 c5 c6 c7 c8 c9
                have CWK := hide (wakes_any _ (kw_on HK (lie_turn G8)))
                go_wp2_with fail
                refine CWK.out.mono ?_
                rintro e wz ⟨rfl, TZ⟩
                go_wp2_with fail
                go_ret
                exact ⟨rfl, (lie_turn G8).step TZ (fun _ _ h => h)⟩
              · have G8 := hide (G7.out.stay TT)
                have HRR2 := hide HR2
                clear CC TT c0 c1 c2 c3 c4 c5 c6 c7 c8 c9 HR2
                obtain ⟨u, hu⟩ : ∃ u, u = strOfNums (packB l) := ⟨_, rfl⟩
                obtain ⟨v, hv⟩ : ∃ v, v = strOfNums (packB k) := ⟨_, rfl⟩
                have hfr : u = v ↔ l = k := by rw [hu, hv]; exact pack_free l k HRR1.out HRR2.out hl2 hk2
                rw [← hu, ← hv]
                clear hu hv
                by_cases hlk : l = k
                · have huv : u = v := hfr.2 hlk
                  subst hlk huv
                  have euv : (u.toList == u.toList) = true := by simp
                  obtain ⟨c0, c1, c2, c3, c4, c5, c6, c7, c8, c9⟩ := lcell (G8.out.get 1 rfl)
                  obtain ⟨d0, d1, d2, d3, d4, d5, d6, d7, d8, d9⟩ := lcell (G8.out.get 0 rfl)
                  have CWK := hide (wakes_any _ (kw_on HK (lie_turn G8)))
                  go_wp2_with fail
                  refine CWK.out.mono ?_
                  rintro e wz ⟨rfl, TZ⟩
                  go_wp2_with fail
                  go_ret
                  exact ⟨rfl, (lie_turn G8).step TZ (fun _ _ h => h)⟩
                · have huv : u ≠ v := fun e => hlk (hfr.1 e)
                  have euv : (u.toList == v.toList) = false := by rw [str_eq]; exact decide_eq_false huv
                  have HLK := hide hlk
                  clear hfr hlk huv
                  obtain ⟨c0, c1, c2, c3, c4, c5, c6, c7, c8, c9⟩ := lcell (G8.out.get 1 rfl)
                  obtain ⟨d0, d1, d2, d3, d4, d5, d6, d7, d8, d9⟩ := lcell (G8.out.get 0 rfl)
                  have CWK := hide (wakes_any _ (kw_on HK (lie_turn G8)))
                  go_wp2_with fail
                  all_goals first
                    | exact absurd (letr_eq (by assumption) (by assumption) (by assumption) (by assumption) (by assumption) (by assumption) (by assumption) (by assumption) (by assumption) (by assumption)) HLK.out
                    | (refine CWK.out.mono ?_; rintro e wz ⟨rfl, TZ⟩; go_wp2_with fail; go_ret; exact ⟨rfl, (lie_turn G8).step TZ (fun _ _ h => h)⟩)
end Go.Proofs.YtnljdcghaecdaaaGreatDoor
