/-
  Find.
-/
import Derived.Test.YtnljdcghaecdaaaGreatDoorFnd
import Derived.Laws.ResultCell
import Derived.Deep.Cut
namespace Go.Proofs.YtnljdcghaecdaaaGreatDoor
open Go.RowKit Go.Lib Go.Maps
attribute [local go_sem] Oper.semAt_some

abbrev fld (f : FieldD) : ByteArray × List SortD := (f.name, f.ts)
/-- A record as it is told. -/
abbrev RecK := ByteArray × Bool × List (ByteArray × List SortD)
abbrev reck (r : RecD) : RecK := (r.name, r.choice, r.fs.map fld)
def hasR (rs : List RecD) (x : ByteArray) : Bool := rs.any fun r => decide (r.name = x)
def findR (rs : List RecD) (x : ByteArray) : RecK := match rs.find? (fun r => decide (r.name = x)) with | some r => reck r | none => (⟨#[]⟩, false, [])
theorem find_at {rs : List RecD} {x : ByteArray} {k : Nat} (hk : k < rs.length) (h : ∀ t (ht : t < rs.length), t < k → rs[t].name ≠ x) (he : rs[k].name = x) : hasR rs x = true ∧ findR rs x = reck rs[k] := by
  have h1 : rs.find? (fun r => decide (r.name = x)) = some rs[k] := by
    rw [List.find?_eq_some_iff_getElem]
    refine ⟨by simp [he], k, hk, rfl, fun j hj => ?_⟩
    have := h j (by omega) hj
    simp [this]
  refine ⟨?_, by unfold findR; rw [h1]⟩
  exact List.any_eq_true.2 ⟨rs[k], List.getElem_mem hk, by simp [he]⟩
theorem find_none {rs : List RecD} {x : ByteArray} (h : ∀ t (ht : t < rs.length), t < rs.length → rs[t].name ≠ x) : hasR rs x = false ∧ findR rs x = (⟨#[]⟩, false, []) := by
  have h1 : rs.find? (fun r => decide (r.name = x)) = none := by
    rw [List.find?_eq_none]
    intro r hr
    obtain ⟨t, ht, rfl⟩ := List.getElem_of_mem hr
    simpa using h t ht ht
  refine ⟨?_, by unfold findR; rw [h1]⟩
  rw [Bool.eq_false_iff]
  intro hc
  obtain ⟨r, hr, e⟩ := List.any_eq_true.1 hc
  obtain ⟨t, ht, rfl⟩ := List.getElem_of_mem hr
  exact h t ht ht (of_decide_eq_true e)
abbrev recv (r : RecD) : Value := .agg #[.string r.name, .bool r.choice, r.fv]
def FindTo (rs : List RecD) (x : ByteArray) (w : World) (e : Ending) (w' : World) : Prop :=
  ∃ r : RecD, e = .returned (.tuple #[recv r, .bool (hasR rs x)]) ∧ reck r = findR rs x ∧ FieldsAt w' r.fv r.fs ∧ Turn (fun _ => False) w w'
theorem ownsRow_low {w : World} {base low : Nat} {e : TypeId} {size n : Nat} {v : Value} {xs : List Value} (h : w.ownsRow base e size v n xs) (hl : low ≤ base) : w.ownsRow low e size v n xs := by
  refine ⟨h.1, h.2.imp id ?_⟩
  rintro ⟨g, cap, cur, hv, hb, r⟩
  exact ⟨g, cap, cur, hv, Nat.le_trans hl hb, r⟩
abbrev srow (B : Nat) (f : FieldD) : Thing := row B 44 2 f.tv f.ts.length (f.ts.flatMap sortc)
set_option maxRecDepth 100000 in
set_option maxHeartbeats 8000000 in
theorem find_any (s : SchD) (x : ByteArray) (w : World) (h : SchAt w s) (g : GSch s) : Calls Tryz.prog 52 #[schv s, .string x] w (FindTo s.rs x w) := by
  have H := hide h.rs
  have HG := hide g.rs
  have hn := g.nr
  obtain ⟨name, rs, rv, vs, vv, gs, gv⟩ := s
  simp only at H hn HG
  obtain ⟨Ar, cr, e1⟩ := h.rs.1.shape
  simp only at e1
  subst e1
  clear h g
  unfold schv
  simp only
  obtain ⟨n, hnn⟩ : ∃ n, n = rs.length := ⟨_, rfl⟩
  rw [← hnn] at hn ⊢
  have HN := hide hnn
  obtain ⟨w1, hw1⟩ : ∃ w1, w1 = (w.alloc (.cells #[.string name, .slice Ar n cr, vv, gv] 26)).alloc (.cells #[.string ⟨#[]⟩, .bool false, .slice none 0 0] 61) := ⟨_, rfl⟩
  obtain ⟨r, hr⟩ : ∃ r, r = w.heap.size := ⟨_, rfl⟩
  obtain ⟨q, hq⟩ : ∃ q, q = r + 1 := ⟨_, rfl⟩
  have S1 : Hid (Lie w.heap.size w w1 [box q (.cells #[.string ⟨#[]⟩, .bool false, .slice none 0 0] 61 (0, 0)), box r (.cells #[.string name, .slice Ar n cr, vv, gv] 26 (0, 0))]) := hide (by
    have := ((Lie.start w).alloc (.cells #[.string name, .slice Ar n cr, vv, gv] 26)).alloc (.cells #[.string ⟨#[]⟩, .bool false, .slice none 0 0] 61)
    have e : (w.alloc (.cells #[.string name, .slice Ar n cr, vv, gv] 26)).heap.size = q := by rw [hq, hr]; simp
    rw [e] at this
    rw [hw1, hr]; exact this)
  have HW := hide hw1
  have HR := hide hr
  have HQ := hide hq
  clear hw1 hr hq hnn
  go_enter Tryz.func52, Tryz.ntmps52
  go_wp2_with fail
  rw [← HW.out, ← HR.out, ← HQ.out]
  go_loopw [13] (fun s3 wr => ∃ k : Nat, k ≤ n ∧ s3 = .int .i64 k ∧ Hid (Lie w.heap.size w wr [box q (.cells #[.string ⟨#[]⟩, .bool false, .slice none 0 0] 61 (0, 0)), box r (.cells #[.string name, .slice Ar n cr, vv, gv] 26 (0, 0))]) ∧ Hid (∀ t (ht : t < rs.length), t < k → rs[t].name ≠ x)) (fun s3 _ => n - (intOf s3).toNat)
  case atStart => exact ⟨0, by omega, rfl, S1, hide (fun t _ h => by omega)⟩
  case round =>
    clear S1 HW
    obtain ⟨k, hk, rfl, HL, HI⟩ := hrel
    by_cases hlt : k < n
    · have hil : k < rs.length := by have := HN.out; omega
      obtain ⟨b, o, rfl, hb, hnv, hc⟩ := rec_at (A := Ar) (c := cr) (n := rs.length) rs (H.out.on (turn_of HL.out)) (by omega)
      obtain ⟨d0, d1, d2⟩ := hc k hil
      clear hc hnv
      have HM := hide (H.out.2 rs[k] (List.getElem_mem hil))
      have HGk := hide (HG.out rs[k] (List.getElem_mem hil))
      obtain ⟨⟨rn, rc, fs, fv⟩, hv⟩ : ∃ v, v = rs[k] := ⟨_, rfl⟩
      have HV := hide hv
      rw [← hv] at d0 d1 d2 HM HGk
      clear hv
      simp only at d0 d1 d2 HM HGk
      obtain ⟨Am, cm, rfl⟩ := HM.out.1.shape
      obtain ⟨m, hmm⟩ : ∃ m, m = fs.length := ⟨_, rfl⟩
      have HMM := hide hmm
      rw [← hmm] at d2
      have hm4 : m ≤ 40 := by rw [hmm]; exact HGk.out.2.1
      clear hmm
      obtain ⟨w2, hw2⟩ : ∃ w2, w2 = wr.alloc (.cells #[.string rn, .bool rc, .slice Am m cm] 61) := ⟨_, rfl⟩
      obtain ⟨r7, hr2⟩ : ∃ r2, r2 = wr.heap.size := ⟨_, rfl⟩
      have S2 : Hid (Lie w.heap.size w w2 [box r7 (.cells #[.string rn, .bool rc, .slice Am m cm] 61 (0, 0)), box q (.cells #[.string ⟨#[]⟩, .bool false, .slice none 0 0] 61 (0, 0)), box r (.cells #[.string name, .slice (some ⟨b, o, none⟩) n cr, vv, gv] 26 (0, 0))]) := hide (by rw [hw2, hr2]; exact HL.out.alloc _)
      have HW2 := hide hw2
      have HR2 := hide hr2
      by_cases hx : rn = x
      · have e1 : (rn.toList == x.toList) = true := by rw [str_eq]; exact decide_eq_true hx
        have HX0 := hide hx
        have C1 := hide (clone87 (.slice Am m cm) m (fs.flatMap fieldc) w2 (by
          have := HM.out.1.turn (turn_of HL.out) (fun _ _ _ h => h)
          rw [← HMM.out] at this
          rw [hw2]
          exact this.turn ((Turn.refl (fun _ => False) wr).alloc _) (fun _ _ _ h => h)) (fields_one fs (fun f hf => by obtain ⟨A, c, e⟩ := (HM.out.2 f hf).1.shape; rw [e]; rfl)) (by omega))
        clear hw2 hr2 hx
        go_wp2_with fail
        rw [← HW2.out, ← HR2.out]
        refine C1.out.mono ?_
        rintro e w3 ⟨v8, rfl, own8, T8⟩
        obtain ⟨A8, c8, rfl⟩ := (Rd.of_own own8).shape
        have S3 : Hid (Lie w.heap.size w w3 [row w.heap.size 63 2 (.slice A8 m c8) m (fs.flatMap fieldc), box r7 (.cells #[.string rn, .bool rc, .slice Am m cm] 61 (0, 0)), box q (.cells #[.string ⟨#[]⟩, .bool false, .slice none 0 0] 61 (0, 0)), box r (.cells #[.string name, .slice (some ⟨b, o, none⟩) n cr, vv, gv] 26 (0, 0))]) := hide (S2.out.push T8 (ownsRow_low own8 S2.out.base_le) (fun g hg => (ownsRow_base own8 hg).1))
        clear own8 T8 C1 S2 HW2 HR2 HL d0 d1 d2 e1
        go_wp2_with fail
        go_loopw [26] (fun s26 wr => ∃ j : Nat, j ≤ m ∧ s26 = .int .i64 j ∧ ∃ (fs' : List FieldD) (us : List Thing), Hid (Lie w.heap.size w wr (row w.heap.size 63 2 (.slice A8 m c8) m (fs'.flatMap fieldc) :: box r7 (.cells #[.string rn, .bool rc, .slice Am m cm] 61 (0, 0)) :: box q (.cells #[.string ⟨#[]⟩, .bool false, .slice none 0 0] 61 (0, 0)) :: box r (.cells #[.string name, .slice (some ⟨b, o, none⟩) n cr, vv, gv] 26 (0, 0)) :: us)) ∧ Hid (fs'.map fld = fs.map fld) ∧ Hid (∀ t (ht : t < fs'.length), t < j → ∃ i : Nat, us[i]? = some (srow w.heap.size fs'[t])) ∧ Hid (∀ t (ht : t < fs'.length) (ht' : t < fs.length), j ≤ t → fs'[t] = fs[t])) (fun s26 _ => m - (intOf s26).toNat)
        case atStart => exact ⟨0, by omega, rfl, fs, [], S3, hide rfl, hide (fun t _ h => by omega), hide (fun t _ _ _ => rfl)⟩
        case round =>
          clear S3
          obtain ⟨j, hj, rfl, fs', us, HX, HF, HU, HS⟩ := hrel
          have hlen : fs'.length = fs.length := by have := congrArg List.length HF.out; simpa using this
          by_cases hlj : j < m
          · have hjl : j < fs.length := by have := HMM.out; omega
            have hjl' : j < fs'.length := by omega
            obtain ⟨g, c9, e9⟩ := own_shape (HX.out.get 0 rfl) (by omega)
            injection e9 with e91 _ e93
            subst e91 e93
            have hfe := HS.out j hjl' hjl (Nat.le_refl _)
            have hcl : (fs'.flatMap fieldc)[j * 2 + 1]? = some fs'[j].tv := by rw [flat_at (m := 2) (fun _ => rfl) fs' j 1 hjl' (by omega)]; rfl
            obtain ⟨k1, k1f⟩ := own_cell (HX.out.get 0 rfl) (j * 2 + 1) _ hcl
            have HMj := hide (HM.out.2 fs[j] (List.getElem_mem hjl))
            have HGj := hide (HGk.out.2.2 fs[j] (List.getElem_mem hjl))
            rw [hfe] at k1
            obtain ⟨⟨fn, ts, tv⟩, hfd⟩ : ∃ v, v = fs[j] := ⟨_, rfl⟩
            rw [← hfd] at k1 HMj HGj
            have HFD := hide (hfd.trans hfe.symm)
            clear hfd hfe
            simp only at k1 HMj HGj
            have C2 := hide (clone88 tv ts.length (ts.flatMap sortc) wr (HMj.out.1.turn (turn_of HX.out) (fun _ _ _ h => h)) (sorts_one ts) (by have : ts.length ≤ 40 := HGj.out.2.1; omega))
            have hmj : j * 2 + 1 < m * 2 := by omega
            go_wp2_with fail
            refine C2.out.mono ?_
            rintro e w5 ⟨v', rfl, own', T'⟩
            have S5 : Hid (Lie w.heap.size w w5 (srow w.heap.size ⟨fn, ts, v'⟩ :: row w.heap.size 63 2 (.slice (some ⟨g, 0, none⟩) m c8) m (fs'.flatMap fieldc) :: box r7 (.cells #[.string rn, .bool rc, .slice Am m cm] 61 (0, 0)) :: box q (.cells #[.string ⟨#[]⟩, .bool false, .slice none 0 0] 61 (0, 0)) :: box r (.cells #[.string name, .slice (some ⟨b, o, none⟩) n cr, vv, gv] 26 (0, 0)) :: us)) := hide (HX.out.push T' (ownsRow_low own' HX.out.base_le) (fun g hg => (ownsRow_base own' hg).1))
            obtain ⟨A', c', rfl⟩ := (Rd.of_own own').shape
            obtain ⟨k2, k2f⟩ := own_cell (S5.out.get 1 rfl) (j * 2 + 1) _ hcl
            have S6 : Hid (Lie w.heap.size w (w5.setCell ⟨g, j * 2 + 1, none⟩ (.slice A' ts.length c')) (row w.heap.size 63 2 (.slice (some ⟨g, 0, none⟩) m c8) m ((fs'.set j { fs'[j] with tv := (.slice A' ts.length c') }).flatMap fieldc) :: box r7 (.cells #[.string rn, .bool rc, .slice Am m cm] 61 (0, 0)) :: box q (.cells #[.string ⟨#[]⟩, .bool false, .slice none 0 0] 61 (0, 0)) :: box r (.cells #[.string name, .slice (some ⟨b, o, none⟩) n cr, vv, gv] 26 (0, 0)) :: srow w.heap.size ⟨fn, ts, (.slice A' ts.length c')⟩ :: us)) := hide (by
              rw [← field_set fs' j hjl' (.slice A' ts.length c')]
              exact lie_tuck4 (S5.out.step (t' := row w.heap.size 63 2 (.slice (some ⟨g, 0, none⟩) m c8) m ((fs'.flatMap fieldc).set (j * 2 + 1) (.slice A' ts.length c'))) 1 rfl ((Turn.refl (fun k => (Value.slice (some ⟨g, 0, none⟩) m c8).ownBlock = some k) w5).setCell (p := ⟨g, j * 2 + 1, none⟩) (fun _ => rfl) (.slice A' ts.length c')) (own_setCell (S5.out.get 1 rfl) (j * 2 + 1) (.slice A' ts.length c')) (fun k hk => .inl hk)))
            clear C2 own' T' HX k1 k1f hcl
            go_wp2_with fail
            go_roundw
            case rel =>
              refine ⟨j + 1, by omega, by go_num, _, _, S6, hide ?_, hide ?_, hide ?_⟩
              · rw [List.map_set, ← HF.out]
                exact set_self (by rw [List.getElem?_map, List.getElem?_eq_getElem hjl']; rfl)
              · intro t ht htj
                rw [List.length_set] at ht
                rcases Nat.lt_or_ge t j with h2 | h2
                · obtain ⟨i, hi⟩ := HU.out t ht h2
                  refine ⟨i + 1, ?_⟩
                  rw [List.getElem_set_ne (by omega)]
                  exact hi
                · obtain rfl : t = j := by omega
                  refine ⟨0, ?_⟩
                  rw [List.getElem_set_self]
                  rw [← HFD.out]
                  rfl
              · intro t ht ht' htj
                rw [List.getElem_set_ne (by omega)]
                exact HS.out t _ ht' (by omega)
            case measure => simp [intOf]; omega
          · obtain rfl : j = m := by omega
            obtain ⟨x0, x1, x2⟩ := cell3 (HX.out.get 1 rfl)
            have x2f : wr.frozen? ⟨r7, 2, none⟩ = false := (box_cell (HX.out.get 1 rfl) 2).2
            have S7 : Hid (Lie w.heap.size w (wr.setCell ⟨r7, 2, none⟩ (.slice A8 j c8)) (row w.heap.size 63 2 (.slice A8 j c8) j (fs'.flatMap fieldc) :: box r7 (.cells #[.string rn, .bool rc, .slice A8 j c8] 61 (0, 0)) :: box q (.cells #[.string ⟨#[]⟩, .bool false, .slice none 0 0] 61 (0, 0)) :: box r (.cells #[.string name, .slice (some ⟨b, o, none⟩) n cr, vv, gv] 26 (0, 0)) :: us)) := hide (HX.out.setBox 1 rfl 2 _)
            go_upto_region 12 with (fail)
            generalize wr.setCell ⟨r7, 2, none⟩ (.slice A8 j c8) = w7 at *
            clear x0 x1 x2 x2f HX
            obtain ⟨x0, x1, x2⟩ := cell3 (S7.out.get 1 rfl)
            obtain ⟨y0, y1, y2⟩ := cell3 (S7.out.get 2 rfl)
            have f0 : w7.frozen? ⟨q, 0, none⟩ = false := (box_cell (S7.out.get 2 rfl) 0).2
            have f1 : w7.frozen? ⟨q, 1, none⟩ = false := (box_cell (S7.out.get 2 rfl) 1).2
            have f2 : w7.frozen? ⟨q, 2, none⟩ = false := (box_cell (S7.out.get 2 rfl) 2).2
            have S8 : Hid (Lie w.heap.size w (((w7.setCell ⟨q, 0, none⟩ (.string rn)).setCell ⟨q, 1, none⟩ (.bool rc)).setCell ⟨q, 2, none⟩ (.slice A8 j c8)) (row w.heap.size 63 2 (.slice A8 j c8) j (fs'.flatMap fieldc) :: box r7 (.cells #[.string rn, .bool rc, .slice A8 j c8] 61 (0, 0)) :: box q (.cells #[.string rn, .bool rc, .slice A8 j c8] 61 (0, 0)) :: box r (.cells #[.string name, .slice (some ⟨b, o, none⟩) n cr, vv, gv] 26 (0, 0)) :: us)) := hide (((S7.out.setBox 2 rfl 0 (.string rn)).setBox 2 rfl 1 (.bool rc)).setBox 2 rfl 2 (.slice A8 j c8))
            go_wp2_with fail
            generalize ((w7.setCell ⟨q, 0, none⟩ (.string rn)).setCell ⟨q, 1, none⟩ (.bool rc)).setCell ⟨q, 2, none⟩ (.slice A8 j c8) = w8 at *
            clear x0 x1 x2 y0 y1 y2 f0 f1 f2
            obtain ⟨y0, y1, y2⟩ := cell3 (S8.out.get 2 rfl)
            try simp only [Exit.inBlock, Exit.then]
            refine bodyPost_ret (v := .tuple #[.agg #[.string rn, .bool rc, .slice A8 j c8], .bool true]) (by rw [results_cell_tmp rfl]; go_simp) rfl ?_
            obtain ⟨g1, g2⟩ := find_at hil (fun t ht h => HI.out t ht h) (by rw [← HV.out]; exact HX0.out)
            rw [← HV.out] at g2
            have hjl : j = fs'.length := by have := congrArg List.length HF.out; have h2 := HMM.out; simp at this; omega
            refine ⟨⟨rn, rc, fs', .slice A8 j c8⟩, by rw [g1], by rw [g2]; simp only [reck]; rw [HF.out], ⟨?_, fun f hf => ?_⟩, turn_of S8.out⟩
            · have := Rd.of_own (S8.out.get 0 rfl)
              rw [hjl] at this
              rw [hjl]; exact this
            · obtain ⟨t, ht, rfl⟩ := List.getElem_of_mem hf
              obtain ⟨i, hi⟩ := HU.out t ht (by rw [hjl]; exact ht)
              exact ⟨Rd.of_own (S8.out.get (i + 4) hi), Capd.own (S8.out.get (i + 4) hi)⟩
      · have e1 : (rn.toList == x.toList) = false := by rw [str_eq]; exact decide_eq_false hx
        have HX : Hid (∀ t (ht : t < rs.length), t < k + 1 → rs[t].name ≠ x) := hide (all_next (P := fun r : RecD => r.name ≠ x) HI.out hil (by rw [← HV.out]; exact hx))
        clear hw2 hr2 hx
        go_wp2_with fail
        rw [← HW2.out]
        go_roundw
        case rel => exact ⟨k + 1, by omega, by go_num, hide (S2.out.erase 0), HX⟩
        case measure => simp [intOf]; omega
    · obtain rfl : k = n := by omega
      obtain ⟨y0, y1, y2⟩ := cell3 (HL.out.get 0 rfl)
      have f0 : wr.frozen? ⟨q, 0, none⟩ = false := (box_cell (HL.out.get 0 rfl) 0).2
      have f1 : wr.frozen? ⟨q, 1, none⟩ = false := (box_cell (HL.out.get 0 rfl) 1).2
      have f2 : wr.frozen? ⟨q, 2, none⟩ = false := (box_cell (HL.out.get 0 rfl) 2).2
      have S7 : Hid (Lie w.heap.size w (((wr.setCell ⟨q, 0, none⟩ (.string ⟨#[]⟩)).setCell ⟨q, 1, none⟩ (.bool false)).setCell ⟨q, 2, none⟩ (.slice none 0 0)) [box q (.cells #[.string ⟨#[]⟩, .bool false, .slice none 0 0] 61 (0, 0)), box r (.cells #[.string name, .slice Ar k cr, vv, gv] 26 (0, 0))]) := hide (((HL.out.setBox 0 rfl 0 (.string ⟨#[]⟩)).setBox 0 rfl 1 (.bool false)).setBox 0 rfl 2 (.slice none 0 0))
      go_wp2_with fail
      generalize ((wr.setCell ⟨q, 0, none⟩ (.string ⟨#[]⟩)).setCell ⟨q, 1, none⟩ (.bool false)).setCell ⟨q, 2, none⟩ (.slice none 0 0) = w7 at *
      clear y0 y1 y2 f0 f1 f2
      obtain ⟨y0, y1, y2⟩ := cell3 (S7.out.get 0 rfl)
      try simp only [Exit.inBlock, Exit.then]
      refine bodyPost_ret (v := .tuple #[.agg #[.string ⟨#[]⟩, .bool false, .slice none 0 0], .bool false]) (by rw [results_cell_tmp rfl]; go_simp) rfl ?_
      obtain ⟨g1, g2⟩ := find_none (rs := rs) (x := x) (fun t ht h => HI.out t ht (by rw [HN.out]; exact h))
      refine ⟨⟨⟨#[]⟩, false, [], .slice none 0 0⟩, by rw [g1], by rw [g2]; rfl, ⟨⟨rfl, none, 0, rfl, fun _ => ⟨rfl, rfl⟩, fun h => by cases h⟩, fun f hf => by cases hf⟩, turn_of S7.out⟩
end Go.Proofs.YtnljdcghaecdaaaGreatDoor
