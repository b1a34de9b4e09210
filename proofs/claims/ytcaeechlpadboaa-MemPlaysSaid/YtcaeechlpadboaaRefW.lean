/-
  The document's Get, Delete, Floor.
-/
import Derived.Test.YtcaeechlpadboaaRel
namespace Go.Proofs.Ytcaeechlpadboaa
open Go.RowKit Go.Maps Go.Shelf
attribute [local go_sem] Oper.semAt_some

theorem refGet_at (xs : List Pr) (k : ByteArray) (q : Nat) (hq : q < xs.length) (h0 : ∀ t (ht : t < xs.length), t < q → (xs[t]).1 ≠ k) (hk : (xs[q]).1 = k) : refGet xs k = ((xs[q]).2, true) := by
  have hf : xs.find? (fun x => decide (x.1 = k)) = some xs[q] := List.find?_eq_some_iff_getElem.2 ⟨decide_eq_true hk, q, hq, rfl, fun j hj => by simpa using h0 j (by omega) hj⟩
  unfold refGet
  rw [hf]
theorem refGet_no (xs : List Pr) (k : ByteArray) (h0 : ∀ t (ht : t < xs.length), (xs[t]).1 ≠ k) : refGet xs k = (k0, false) := by
  have hf : xs.find? (fun x => decide (x.1 = k)) = none := List.find?_eq_none.2 fun x hx => by
    obtain ⟨t, ht, rfl⟩ := List.getElem_of_mem hx
    simpa using h0 t ht
  unfold refGet
  rw [hf]
set_option maxRecDepth 100000 in
set_option maxHeartbeats 2000000 in
theorem refget_any (xs : List Pr) (k : ByteArray) (v : Value) (w : World) (h : Rd w 2 v xs.length (xs.flatMap prc)) (hn : xs.length ≤ 100000) :
    Calls Try.prog 40 #[v, .string k] w fun e w' => e = .returned (.tuple #[.string (refGet xs k).1, .bool (refGet xs k).2]) ∧ w' = w := by
  obtain ⟨A, c, rfl⟩ := h.shape
  have H := hide h
  obtain ⟨n, hnn⟩ : ∃ n, n = xs.length := ⟨_, rfl⟩
  have HN := hide hnn
  rw [← hnn] at hn
  clear h hnn
  rw [← HN.out]
  go_enter Try.func40, Try.ntmps40
  go_wp2_with fail
  go_loop [6] (fun i => ∃ q : Nat, q ≤ n ∧ i = .int .i64 q ∧ Hid (∀ t (ht : t < xs.length), t < q → (xs[t]).1 ≠ k)) (fun i => n - (intOf i).toNat)
  case atStart => exact ⟨0, by omega, rfl, hide (fun t _ h => by omega)⟩
  case round =>
    obtain ⟨q, hq, rfl, HI⟩ := hrel
    by_cases hlt : q < n
    · have hqx : q < xs.length := by have := HN.out; omega
      obtain ⟨b, o, rfl, hb, hc⟩ := pair_at xs H.out (by omega)
      obtain ⟨k1, k2⟩ := hc q hqx
      by_cases hk : (xs[q]).1 = k
      · have hg := refGet_at xs k q hqx HI.out hk
        have HG := hide hg
        rw [hk] at k1
        generalize (xs[q]).2 = u at *
        have e1 : (k.toList == k.toList) = true := by simp
        clear hc hk hg
        go_wp2_with fail
        go_ret2
        exact ⟨by rw [HG.out]; rfl, rfl⟩
      · have hn1 : Hid (∀ t (ht : t < xs.length), t < q + 1 → (xs[t]).1 ≠ k) := hide (fun t ht htq => by
          rcases Nat.lt_or_ge t q with h3 | h3
          · exact HI.out t ht h3
          · obtain rfl : t = q := by omega
            exact hk)
        have e1 : ((xs[q]).1.toList == k.toList) = false := by rw [str_eq]; exact decide_eq_false hk
        generalize (xs[q]).1 = u at *
        clear hc hk HI k2
        go_wp2_with fail
        go_round
        case rel => exact ⟨q + 1, by omega, by go_num, hn1⟩
        case measure => simp [intOf]; omega
    · obtain rfl : q = n := by omega
      have HG := hide (refGet_no xs k (fun t ht => HI.out t ht (by have := HN.out; omega)))
      go_wp2_with fail
      go_ret2
      exact ⟨by rw [HG.out]; rfl, rfl⟩

theorem refDel_snoc (xs : List Pr) (x : Pr) (k : ByteArray) : refDel (xs ++ [x]) k = if x.1 = k then refDel xs k else refDel xs k ++ [x] := by
  unfold refDel
  rw [List.filter_append]
  by_cases h : x.1 = k
  · simp [h]
  · simp [h]
theorem refDel_le (xs : List Pr) (k : ByteArray) : (refDel xs k).length ≤ xs.length := List.length_filter_le _ _
set_option maxRecDepth 100000 in
set_option maxHeartbeats 4000000 in
theorem refdel_any (xs : List Pr) (k : ByteArray) (v : Value) (w : World) (h : Rd w 2 v xs.length (xs.flatMap prc)) (hn : xs.length ≤ 100000) :
    Calls Try.prog 41 #[v, .string k] w fun e w' => ∃ v', e = .returned (.tuple #[v', .bool (decide ((refDel xs k).length < xs.length))]) ∧ NewPrs w w.heap.size (refDel xs k) v' w' := by
  obtain ⟨i0, hi0, hz0, hz1, hz2⟩ := info_parts info25
  obtain ⟨A, c, rfl⟩ := h.shape
  have H := hide h
  obtain ⟨n, hnn⟩ : ∃ n, n = xs.length := ⟨_, rfl⟩
  have HN := hide hnn
  rw [← hnn] at hn
  clear h hnn
  obtain ⟨B, hB⟩ : ∃ B, B = w.heap.size := ⟨_, rfl⟩
  rw [← hB]
  have HB := hide hB
  clear hB
  rw [← HN.out]
  go_enter Try.func41, Try.ntmps41
  go_wp2_with fail
  go_loopw [6, 7] (fun s i wr => ∃ q r : Nat, q ≤ n ∧ r ≤ q ∧ i = .int .i64 q ∧ r = (refDel (xs.take q) k).length ∧ (∃ A' c', s = .slice A' r c') ∧ Hid (wr.ownsRow B 25 2 s r ((refDel (xs.take q) k).flatMap prc) ∧ Turn (fun _ => False) w wr)) (fun _ i _ => n - (intOf i).toNat)
  case atStart => exact ⟨0, 0, by omega, by omega, rfl, rfl, ⟨none, 0, rfl⟩, hide ⟨World.ownsRow_nil _ _ _ _, Turn.refl _ _⟩⟩
  case round =>
    obtain ⟨q, r, hq, hrq, rfl, hr, ⟨A', c', rfl⟩, HI⟩ := hrel
    have HR := hide hr
    clear hr
    by_cases hlt : q < n
    · have hqx : q < xs.length := by have := HN.out; omega
      obtain ⟨b, o, rfl, hb, hc⟩ := pair_at xs H.out (by omega)
      obtain ⟨k1, k2⟩ := hc q hqx
      have t1 := HI.out.2
      have d1 := (t1.cell (p := ⟨b, o + q * 2, none⟩) hb (fun h => h)).trans k1
      have d2 := (t1.cell (p := ⟨b, o + q * 2 + 1, none⟩) hb (fun h => h)).trans k2
      have hts : Hid (refDel (xs.take (q + 1)) k = if (xs[q]).1 = k then refDel (xs.take q) k else refDel (xs.take q) k ++ [xs[q]]) := hide (by rw [List.take_succ_eq_append_getElem hqx, refDel_snoc])
      obtain ⟨y, hy⟩ : ∃ y, y = xs[q] := ⟨_, rfl⟩
      rw [← hy] at d1 d2 hts
      clear hc k1 k2 t1 hy
      have hbw : B ≤ wr.heap.size := by rw [HB.out]; exact HI.out.2.size
      by_cases hk : y.1 = k
      · rw [if_pos hk] at hts
        have e1 : (y.1.toList == k.toList) = true := by rw [str_eq]; exact decide_eq_true hk
        clear hk
        go_wp2_with fail
        go_roundw
        case rel => exact ⟨q + 1, r, by omega, by omega, by go_num, by rw [hts.out]; exact HR.out, ⟨A', c', rfl⟩, by rw [hts.out]; exact HI⟩
        case measure => simp [intOf]; omega
      · rw [if_neg hk] at hts
        have e1 : (y.1.toList == k.toList) = false := by rw [str_eq]; exact decide_eq_false hk
        clear hk
        have OWN := hide HI.out.1
        go_wp2_with (at_builtin; refine wpList_append1 rfl (.tmp 21) (.tmp 26) 22 rfl B 25 i0 _ 2 32 Try.underlying22 hi0 hz0 hz1 hz2 rfl (by decide) (.slice A' r c') r _ (by simp [Act.eval]) OWN.out (prc y) (by simp [Act.eval]) rfl (prc_one _) (by omega) (by omega) hbw ?_; intro v' w2 ho t2 hnw; obtain ⟨A2, c2, rfl⟩ := (Rd.of_own ho).shape; have HI2 := hide (show w2.ownsRow B 25 2 (.slice A2 (r + 1) c2) (r + 1) ((refDel (xs.take (q + 1)) k).flatMap prc) ∧ Turn (fun _ => False) w w2 from ⟨by rw [hts.out, List.flatMap_append]; simpa using ho, HI.out.2.step t2 (fun g hg hk => by have := (ownsRow_base HI.out.1 hk).1; rw [HB.out] at this; omega)⟩); clear ho t2 hnw)
        go_roundw
        case rel => exact ⟨q + 1, r + 1, by omega, by omega, by go_num, by rw [hts.out, List.length_append, ← HR.out]; rfl, ⟨A2, c2, rfl⟩, HI2⟩
        case measure => simp [intOf]; omega
    · obtain rfl : q = n := by omega
      have htk : xs.take q = xs := by rw [HN.out]; exact List.take_length
      have HR2 : Hid (r = (refDel xs k).length) := hide (by have := HR.out; rw [htk] at this; exact this)
      rw [htk] at HI
      clear HR htk
      go_wp2_with fail
      go_ret2
      rw [← HR2.out]
      exact ⟨.slice A' r c', by simp, by have h1 := HI.out.1; rw [HR2.out] at h1; rw [HR2.out]; exact h1, HI.out.2⟩

theorem box2_set {w : World} {r : Nat} {u v a b : Value} {t : TypeId} (h : w.heap[r]? = some (.cells #[u, v] t (0, 0))) : ((w.setCell ⟨r, 0, none⟩ a).setCell ⟨r, 1, none⟩ b).heap[r]? = some (.cells #[a, b] t (0, 0)) := by
  simp [World.setCell, Array.getElem?_modify, h]
abbrev bi (o : Option Nat) : Int := match o with | none => -1 | some b => (b : Int)
set_option maxRecDepth 100000 in
set_option maxHeartbeats 4000000 in
theorem reffloor_any (xs : List Pr) (key : ByteArray) (v : Value) (w : World) (h : Rd w 2 v xs.length (xs.flatMap prc)) (hn : xs.length ≤ 100000) (hkey : key.size ≤ 1000000) (hsz : ∀ x ∈ xs, x.1.size ≤ 1000000) :
    Calls Try.prog 44 #[v, .string key] w fun e w' => e = .returned (.tuple #[.agg #[.string (refFloor xs key).1.1, .string (refFloor xs key).1.2], .bool (refFloor xs key).2]) ∧ Turn (fun _ => False) w w' := by
  obtain ⟨A, c, rfl⟩ := h.shape
  have H := hide h
  have HSZ := hide hsz
  obtain ⟨n, hnn⟩ : ∃ n, n = xs.length := ⟨_, rfl⟩
  have HN := hide hnn
  rw [← hnn] at hn
  clear h hnn hsz
  obtain ⟨w1, hw1⟩ : ∃ w1, w1 = w.alloc (.cells #[.string k0, .string k0] 25) := ⟨_, rfl⟩
  obtain ⟨r, hr⟩ : ∃ r, r = w.heap.size := ⟨_, rfl⟩
  have HBX : Hid (w1.heap[r]? = some (.cells #[.string k0, .string k0] 25 (0, 0))) := hide (by rw [hw1, hr]; exact heap_alloc_new w _)
  have T1 : Hid (Turn (fun _ => False) w w1) := hide (by rw [hw1]; exact (Turn.refl _ w).alloc _)
  have HW1 := hide hw1
  have HR := hide hr
  clear hw1 hr
  rw [← HN.out]
  go_enter Try.func44, Try.ntmps44
  go_wp2_with fail
  rw [← HW1.out, ← HR.out]
  go_loopw [6, 7] (fun s i wr => ∃ q : Nat, q ≤ n ∧ i = .int .i64 q ∧ s = .int .i64 (bi (bst xs key q)) ∧ Hid (∃ d, wr = w1.drewN d)) (fun _ i _ => n - (intOf i).toNat)
  case atStart => exact ⟨0, by omega, rfl, rfl, hide ⟨0, rfl⟩⟩
  case round =>
    obtain ⟨q, hq, rfl, rfl, HD⟩ := hrel
    have HB := hide (bst_is xs key q (by have := HN.out; omega))
    by_cases hlt : q < n
    · have hqx : q < xs.length := by have := HN.out; omega
      obtain ⟨b, o, rfl, hb, hc⟩ := pair_at xs H.out (by omega)
      have HC : Hid (∀ i (hi : i < xs.length), wr.cell? ⟨b, o + i * 2, none⟩ = some (.string (xs[i]).1)) := hide (fun i hi => by
        have t : Turn (fun _ => False) w wr := by obtain ⟨d, hd⟩ := HD.out; rw [hd]; exact T1.out.drewN _
        exact (t.cell (p := ⟨b, o + i * 2, none⟩) hb (fun h => h)).trans (hc i hi).1)
      have d1 := HC.out q hqx
      have hstep : bst xs key (q + 1) = if kc key (xs[q]).1 < 0 then bst xs key q else match bst xs key q with
        | none => some q
        | some b => if kc (xs[b]?.getD (k0, k0)).1 (xs[q]).1 < 0 then some q else some b := by rw [bst, List.getElem?_eq_getElem hqx]; rfl
      have hcall := fun m => less_q key (xs[q]).1 hkey (HSZ.out _ (List.getElem_mem hqx)) (wr.drewN m)
      by_cases hky : kc key (xs[q]).1 < 0
      · rw [if_pos hky] at hstep
        rw [decide_eq_true hky] at hcall
        have HS := hide hstep
        have HCALL := hide hcall
        generalize (xs[q]).1 = yk at *
        clear hc hcall hstep hky
        go_wp2_with fail
        go_quiet ((go_at_call 53; with_reducible exact Calls.quiet_of (HCALL.out _)))
        go_wp2_with fail
        go_roundw
        case rel => exact ⟨q + 1, by omega, by go_num, by rw [HS.out], hide (by obtain ⟨d, hd⟩ := HD.out; rw [hd]; exact ⟨_, World.drewN_drewN ..⟩)⟩
        case measure => simp [intOf]; omega
      · rw [if_neg hky] at hstep
        rw [decide_eq_false hky] at hcall
        cases hbq : bst xs key q with
        | none =>
          rw [hbq] at hstep
          have HS : Hid (bst xs key (q + 1) = some q) := hide hstep
          have HCALL := hide hcall
          generalize (xs[q]).1 = yk at *
          clear hc hcall hstep hky
          go_wp2_with fail
          go_quiet ((go_at_call 53; with_reducible exact Calls.quiet_of (HCALL.out _)))
          go_wp2_with fail
          go_roundw
          case rel => exact ⟨q + 1, by omega, by go_num, by rw [HS.out], hide (by obtain ⟨d, hd⟩ := HD.out; rw [hd]; exact ⟨_, World.drewN_drewN ..⟩)⟩
          case measure => simp [intOf]; omega
        | some c0 =>
          obtain ⟨c1, c2, _, _⟩ := HB.out.2 c0 hbq
          rw [hbq] at hstep
          simp only [List.getElem?_eq_getElem c2, Option.getD_some] at hstep
          have d2 := HC.out c0 c2
          have hcn : c0 < n := by omega
          have hcall2 := fun m => less_q (xs[c0]).1 (xs[q]).1 (HSZ.out _ (List.getElem_mem c2)) (HSZ.out _ (List.getElem_mem hqx)) (wr.drewN m)
          by_cases hk2 : kc (xs[c0]).1 (xs[q]).1 < 0
          · have HS : Hid (bst xs key (q + 1) = some q) := hide (hstep.trans (if_pos hk2))
            rw [decide_eq_true hk2] at hcall2
            have HCALL := hide hcall
            have HCALL2 := hide hcall2
            generalize (xs[q]).1 = yk at *
            generalize (xs[c0]).1 = ck at *
            clear hc hcall hcall2 hstep hky hk2
            go_wp2_with fail
            go_quiet ((go_at_call 53; first | with_reducible exact Calls.quiet_of (HCALL.out _) | with_reducible exact Calls.quiet_of (HCALL2.out _)))
            go_wp2_with fail
            go_roundw
            case rel => exact ⟨q + 1, by omega, by go_num, by rw [HS.out], hide (by obtain ⟨d, hd⟩ := HD.out; rw [hd]; exact ⟨_, World.drewN_drewN ..⟩)⟩
            case measure => simp [intOf]; omega
          · have HS : Hid (bst xs key (q + 1) = some c0) := hide (hstep.trans (if_neg hk2))
            rw [decide_eq_false hk2] at hcall2
            have HCALL := hide hcall
            have HCALL2 := hide hcall2
            generalize (xs[q]).1 = yk at *
            generalize (xs[c0]).1 = ck at *
            clear hc hcall hcall2 hstep hky hk2
            go_wp2_with fail
            go_quiet ((go_at_call 53; first | with_reducible exact Calls.quiet_of (HCALL.out _) | with_reducible exact Calls.quiet_of (HCALL2.out _)))
            go_wp2_with fail
            go_roundw
            case rel => exact ⟨q + 1, by omega, by go_num, by rw [HS.out], hide (by obtain ⟨d, hd⟩ := HD.out; rw [hd]; exact ⟨_, World.drewN_drewN ..⟩)⟩
            case measure => simp [intOf]; omega
    · obtain rfl : q = n := by omega
      have hbx : wr.heap[r]? = some (.cells #[.string k0, .string k0] 25 (0, 0)) := by obtain ⟨d, hd⟩ := HD.out; rw [hd]; exact HBX.out
      have t0 : Turn (fun _ => False) w wr := by obtain ⟨d, hd⟩ := HD.out; rw [hd]; exact T1.out.drewN _
      obtain ⟨z0, z1, z2, z3⟩ := MP.cell2 hbx
      have hrr := HR.out
      have fin : ∀ a b : ByteArray, Turn (fun _ => False) w ((wr.setCell ⟨r, 0, none⟩ (.string a)).setCell ⟨r, 1, none⟩ (.string b)) := fun a b =>
        (t0.step (((Turn.refl (· = r) wr).setCell (p := ⟨r, 0, none⟩) (fun _ => rfl) _).setCell (p := ⟨r, 1, none⟩) (fun _ => rfl) _) (fun k hk e => by omega)).mono (fun _ _ h => h.elim)
      have FIN := hide fin
      cases hbq : bst xs key q with
      | none =>
        have HF : Hid (refFloor xs key = ((k0, k0), false)) := hide (by unfold refFloor; rw [← HN.out, hbq])
        obtain ⟨y0, y1, _, _⟩ := MP.cell2 (box2_set (a := .string k0) (b := .string k0) hbx)
        have Y0 := hide y0
        have Y1 := hide y1
        clear hbx t0 fin hrr y0 y1
        go_wp2_with fail
        refine bodyPost_ret (v := .tuple #[.agg #[.string k0, .string k0], .bool false]) ?_ rfl ⟨by rw [HF.out], FIN.out k0 k0⟩
        have y0 := Y0.out
        have y1 := Y1.out
        simp [results, Try.f44, go_sem, y0, y1]
      | some c0 =>
        obtain ⟨c1, c2, _, _⟩ := HB.out.2 c0 hbq
        have HF : Hid (refFloor xs key = (xs[c0], true)) := hide (by unfold refFloor; rw [← HN.out, hbq]; simp only [List.getElem?_eq_getElem c2]; rfl)
        obtain ⟨b, o, rfl, hb, hc⟩ := pair_at xs H.out (by omega)
        obtain ⟨k1, k2⟩ := hc c0 c2
        have d1 := (t0.cell (p := ⟨b, o + c0 * 2, none⟩) hb (fun h => h)).trans k1
        have d2 := (t0.cell (p := ⟨b, o + c0 * 2 + 1, none⟩) hb (fun h => h)).trans k2
        have hcn : c0 < q := c1
        generalize xs[c0] = y at *
        obtain ⟨y0, y1, _, _⟩ := MP.cell2 (box2_set (a := .string y.1) (b := .string y.2) hbx)
        have Y0 := hide y0
        have Y1 := hide y1
        clear hbx t0 fin hrr hc k1 k2 y0 y1
        go_wp2_with fail
        refine bodyPost_ret (v := .tuple #[.agg #[.string y.1, .string y.2], .bool true]) ?_ rfl ⟨by rw [HF.out], FIN.out y.1 y.2⟩
        have y0 := Y0.out
        have y1 := Y1.out
        simp [results, Try.f44, go_sem, y0, y1]
end Go.Proofs.Ytcaeechlpadboaa
