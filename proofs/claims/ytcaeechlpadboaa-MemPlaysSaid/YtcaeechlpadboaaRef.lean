/-
  The document's Less, Set.
-/
import Derived.Test.YtcaeechlpadboaaFlaw
import Derived.Test.YtcaeechlpadboaaM7S
namespace Go.Proofs.Ytcaeechlpadboaa
open Go.RowKit Go.Maps Go.Shelf

theorem cb_step (a b : List UInt8) (k : Nat) (ha : k < a.length) (hb : k < b.length) (h : a[k] = b[k]) : Lib.compareBytes (a.drop k) (b.drop k) = Lib.compareBytes (a.drop (k + 1)) (b.drop (k + 1)) := by
  rw [List.drop_eq_getElem_cons ha, List.drop_eq_getElem_cons hb]
  conv => lhs; unfold Lib.compareBytes
  rw [h, if_neg (UInt8.lt_irrefl _), if_neg (UInt8.lt_irrefl _)]
theorem cb_diff (a b : List UInt8) (k : Nat) (ha : k < a.length) (hb : k < b.length) (h : a[k] ≠ b[k]) : (Lib.compareBytes (a.drop k) (b.drop k) < 0) = (a[k] < b[k]) := by
  rw [List.drop_eq_getElem_cons ha, List.drop_eq_getElem_cons hb]
  unfold Lib.compareBytes
  by_cases h1 : a[k] < b[k]
  · rw [if_pos h1]; simp [h1]
  · have h2 : b[k] < a[k] := UInt8.lt_of_le_of_ne (UInt8.not_lt.1 h1) (fun e => h e.symm)
    rw [if_neg h1, if_pos h2]; simp [h1]
theorem cb_end (a b : List UInt8) (k : Nat) (ha : k ≤ a.length) (hb : k ≤ b.length) (h : k = a.length ∨ k = b.length) : (Lib.compareBytes (a.drop k) (b.drop k) < 0) = (a.length < b.length) := by
  by_cases h1 : k < a.length
  · have h2 : k = b.length := by omega
    have h3 : b.drop k = [] := List.drop_of_length_le (by omega)
    rw [List.drop_eq_getElem_cons h1, h3]
    simp [Lib.compareBytes]
    omega
  · have h2 : a.drop k = [] := List.drop_of_length_le (by omega)
    rw [h2]
    by_cases h3 : k < b.length
    · rw [List.drop_eq_getElem_cons h3]
      simp [Lib.compareBytes]
      omega
    · have h4 : b.drop k = [] := List.drop_of_length_le (by omega)
      rw [h4]
      simp [Lib.compareBytes]
      omega

set_option maxRecDepth 100000 in
set_option maxHeartbeats 2000000 in
theorem less_q (a b : ByteArray) (ha : a.size ≤ 1000000) (hb : b.size ≤ 1000000) (w : World) : Calls Try.prog 53 #[.string a, .string b] w fun e w' => e = .returned (.bool (decide (kc a b < 0))) ∧ ∃ m, w' = w.drewN m := by
  have sa : a.data.toList.length = a.size := by cases a; rfl
  have sb : b.data.toList.length = b.size := by cases b; rfl
  have SA := hide sa
  have SB := hide sb
  obtain ⟨r, hr⟩ : ∃ r, r = decide (kc a b < 0) := ⟨_, rfl⟩
  have HR := hide hr
  rw [← hr]
  clear sa sb hr
  go_enter Try.func53, Try.ntmps53
  go_wp2_with fail
  go_loopw [5] (fun i wr => ∃ k q : Nat, k ≤ a.size ∧ k ≤ b.size ∧ i = .int .i64 k ∧ wr = w.drewN q ∧ Hid (kc a b = Lib.compareBytes (a.data.toList.drop k) (b.data.toList.drop k))) (fun i _ => a.size - (intOf i).toNat)
  case atStart => exact ⟨0, 0, by omega, by omega, rfl, rfl, hide rfl⟩
  case round =>
    obtain ⟨k, q, hka, hkb, rfl, rfl, HK⟩ := hrel
    by_cases h1 : k < a.size
    · by_cases h2 : k < b.size
      · have g1 : (0 : Int) ≤ (k : Int) ∧ (k : Int) < (a.size : Int) := by omega
        have g2 : (0 : Int) ≤ (k : Int) ∧ (k : Int) < (b.size : Int) := by omega
        have e1 : a[k] = (a.data.toList)[k]'(by have := SA.out; omega) := by cases a; rfl
        have e2 : b[k] = (b.data.toList)[k]'(by have := SB.out; omega) := by cases b; rfl
        by_cases hd : a[k] = b[k]
        · have hdi : (((a[k]).toNat : Int) == ((b[k]).toNat : Int)) = true := by rw [hd]; simp
          have HS : Hid (kc a b = Lib.compareBytes (a.data.toList.drop (k + 1)) (b.data.toList.drop (k + 1))) := hide (by rw [HK.out]; exact cb_step _ _ k (by have := SA.out; omega) (by have := SB.out; omega) (by rw [← e1, ← e2]; exact hd))
          clear e1 e2 hd
          go_wp2_with fail
          go_quiet (fail)
          go_wp2_with fail
          go_roundw
          case rel => exact ⟨k + 1, _, by omega, by omega, by go_num, rfl, HS⟩
          case measure => simp [intOf]; omega
        · have hdi : (((a[k]).toNat : Int) == ((b[k]).toNat : Int)) = false := beq_eq_false_iff_ne.2 (fun h => hd (UInt8.toNat_inj.1 (by omega)))
          have hlt : decide ((a[k]).toNat < (b[k]).toNat) = r := by
            rw [HR.out, decide_eq_decide, HK.out, cb_diff _ _ k (by have := SA.out; omega) (by have := SB.out; omega) (by rw [← e1, ← e2]; exact hd), ← e1, ← e2, UInt8.lt_iff_toNat_lt]
          clear e1 e2 hd
          go_wp2_with fail
          go_quiet (fail)
          go_wp2_with fail
          go_quiet (fail)
          go_wp2_with fail
          go_ret
          exact ⟨by rw [← hlt]; rfl, _, by rw [World.drewN_drewN, World.drewN_drewN]⟩
      · have hlt : decide (a.size < b.size) = r := by
          have := SA.out; have := SB.out
          rw [HR.out, decide_eq_decide, HK.out, cb_end _ _ k (by omega) (by omega) (by omega)]
          omega
        go_wp2_with fail
        go_ret
        exact ⟨by rw [← hlt]; rfl, _, rfl⟩
    · have hlt : decide (a.size < b.size) = r := by
        have := SA.out; have := SB.out
        rw [HR.out, decide_eq_decide, HK.out, cb_end _ _ k (by omega) (by omega) (by omega)]
        omega
      go_wp2_with fail
      go_ret
      exact ⟨by rw [← hlt]; rfl, _, rfl⟩

/-! ### The document's Set: the pairs in the order in which they came -/
abbrev Pr : Type := ByteArray × ByteArray
abbrev prc (x : Pr) : List Value := [.string x.1, .string x.2]
theorem prc_len (x : Pr) : (prc x).length = 2 := rfl
theorem info25 : (Try.prog.info? 25).map (fun i => (i.zero, i.size, i.bytes)) = some (some (.agg #[.string ⟨#[]⟩, .string ⟨#[]⟩]), 2, 32) := by kernel_rfl
theorem pair_at {w : World} {A : Option Addr} {c : Nat} (xs : List Pr) (h : Rd w 2 (.slice A xs.length c) xs.length (xs.flatMap prc)) (h0 : 0 < xs.length) :
    ∃ b o, A = some ⟨b, o, none⟩ ∧ b < w.heap.size ∧ ∀ i (hi : i < xs.length), w.cell? ⟨b, o + i * 2, none⟩ = some (.string (xs[i]).1) ∧ w.cell? ⟨b, o + i * 2 + 1, none⟩ = some (.string (xs[i]).2) := by
  obtain ⟨b, o, hA, hb, hc⟩ := h.cells h0
  refine ⟨b, o, hA, hb, fun i hi => ⟨?_, ?_⟩⟩
  · have := hc (i * 2 + 0) (.string (xs[i]).1) (by rw [flat_at prc_len xs i 0 hi (by omega)]; rfl)
    exact this
  · have := hc (i * 2 + 1) (.string (xs[i]).2) (by rw [flat_at prc_len xs i 1 hi (by omega)]; rfl)
    rw [← Nat.add_assoc] at this
    exact this
/-- The pairs with a key's value turned. -/
def turned (k val : ByteArray) (xs : List Pr) : List Pr := xs.map fun x => if x.1 = k then (x.1, val) else x
def refSet (xs : List Pr) (k val : ByteArray) : List Pr × Bool := if xs.any (fun x => decide (x.1 = k)) then (turned k val xs, false) else (turned k val xs ++ [(k, val)], true)
/-- A slice of pairs that was just made. -/
def NewPrs (w : World) (B : Nat) (xs : List Pr) (v : Value) (w' : World) : Prop := w'.ownsRow B 25 2 v xs.length (xs.flatMap prc) ∧ Turn (fun _ => False) w w'
theorem prc_one (x : Pr) : ∀ u ∈ prc x, u.oneCell' = true := by
  intro u hu
  simp only [prc, List.mem_cons, List.not_mem_nil, or_false] at hu
  rcases hu with rfl | rfl <;> rfl
theorem ownsRow_snoc {w : World} {B : Nat} {v : Value} {xs : List Pr} {x : Pr} (h : w.ownsRow B 25 2 v (xs.length + 1) (xs.flatMap prc ++ prc x)) : w.ownsRow B 25 2 v (xs ++ [x]).length ((xs ++ [x]).flatMap prc) := by
  rw [List.length_append, List.flatMap_append]
  simpa using h
set_option maxRecDepth 100000 in
set_option maxHeartbeats 4000000 in
theorem refset_any (xs : List Pr) (k val : ByteArray) (v : Value) (w : World) (h : Rd w 2 v xs.length (xs.flatMap prc)) (hn : xs.length ≤ 100000) :
    Calls Try.prog 14 #[v, .string k, .string val] w fun e w' => ∃ v', e = .returned (.tuple #[v', .bool (refSet xs k val).2]) ∧ NewPrs w w.heap.size (refSet xs k val).1 v' w' := by
  obtain ⟨i0, hi0, hz0, hz1, hz2⟩ := info_parts info25
  obtain ⟨A, c, rfl⟩ := h.shape
  have H := hide h
  obtain ⟨n, hnn⟩ : ∃ n, n = xs.length := ⟨_, rfl⟩
  have HN := hide hnn
  rw [← hnn] at hn
  clear h hnn
  obtain ⟨B, hB⟩ : ∃ B, B = w.heap.size := ⟨_, rfl⟩
  rw [← hB]
  have HB := hide hB
  clear hB
  rw [← HN.out]
  go_enter Try.func14, Try.ntmps14
  go_wp2_with fail
  go_loopw [8, 9, 10] (fun s is i wr => ∃ q : Nat, q ≤ n ∧ i = .int .i64 q ∧ is = .bool ((xs.take q).any fun x => decide (x.1 = k)) ∧ (∃ A' c', s = .slice A' q c') ∧ Hid (wr.ownsRow B 25 2 s q ((turned k val (xs.take q)).flatMap prc) ∧ Turn (fun _ => False) w wr)) (fun _ _ i _ => n - (intOf i).toNat)
  case atStart => exact ⟨0, by omega, rfl, rfl, ⟨none, 0, rfl⟩, hide ⟨World.ownsRow_nil _ _ _ _, Turn.refl _ _⟩⟩
  case round =>
    obtain ⟨q, hq, rfl, rfl, ⟨A', c', rfl⟩, HI⟩ := hrel
    by_cases hlt : q < n
    · have hqx : q < xs.length := by have := HN.out; omega
      obtain ⟨b, o, rfl, hb, hc⟩ := pair_at xs H.out (by omega)
      obtain ⟨k1, k2⟩ := hc q hqx
      have t1 := HI.out.2
      have d1 := (t1.cell (p := ⟨b, o + q * 2, none⟩) hb (fun h => h)).trans k1
      have d2 := (t1.cell (p := ⟨b, o + q * 2 + 1, none⟩) hb (fun h => h)).trans k2
      have hts : Hid (turned k val (xs.take (q + 1)) = turned k val (xs.take q) ++ [if (xs[q]).1 = k then ((xs[q]).1, val) else xs[q]]) := hide (by
        unfold turned
        rw [List.take_succ_eq_append_getElem hqx, List.map_append]
        rfl)
      have has1 : Hid ((xs.take (q + 1)).any (fun x => decide (x.1 = k)) = ((xs.take q).any (fun x => decide (x.1 = k)) || decide ((xs[q]).1 = k))) := hide (by rw [List.take_succ_eq_append_getElem hqx, List.any_append]; simp)
      obtain ⟨y, hy⟩ : ∃ y, y = xs[q] := ⟨_, rfl⟩
      rw [← hy] at d1 d2 hts has1
      clear hc k1 k2 t1 hy
      have hbw : B ≤ wr.heap.size := by rw [HB.out]; exact HI.out.2.size
      by_cases hk : y.1 = k
      · rw [if_pos hk, hk] at hts
        rw [decide_eq_true hk, Bool.or_true] at has1
        rw [hk] at d1
        clear hk
        have e1 : (k.toList == k.toList) = true := by simp
        have OWN : Hid ((wr.alloc (.cells #[.string k, .string val] 25)).ownsRow B 25 2 (.slice A' q c') q ((turned k val (xs.take q)).flatMap prc)) := hide (HI.out.1.alloc _)
        go_wp2_with (at_builtin; refine wpList_append1 rfl (.tmp 28) (.tmp 30) 22 rfl B 25 i0 _ 2 32 Try.underlying22 hi0 hz0 hz1 hz2 rfl (by decide) (.slice A' q c') q _ (by simp [Act.eval]) OWN.out (prc (k, val)) (by simp [Act.eval]) rfl (prc_one _) (by omega) (by omega) (by simp; omega) ?_; intro v' w2 ho t2 hnw; obtain ⟨A2, c2, rfl⟩ := (Rd.of_own ho).shape; have HI2 := hide (show w2.ownsRow B 25 2 (.slice A2 (q + 1) c2) (q + 1) ((turned k val (xs.take (q + 1))).flatMap prc) ∧ Turn (fun _ => False) w w2 from ⟨by rw [hts.out, List.flatMap_append]; simpa using ho, HI.out.2.step (((Turn.refl _ wr).alloc _).step t2 (fun k hk h => h)) (fun g hg hk => by have := (ownsRow_base HI.out.1 hk).1; rw [HB.out] at this; omega)⟩); clear ho t2 hnw)
        go_roundw
        case rel => exact ⟨q + 1, by omega, by go_num, by rw [has1.out], ⟨A2, c2, rfl⟩, HI2⟩
        case measure => simp [intOf]; omega
      · rw [if_neg hk] at hts
        rw [decide_eq_false hk, Bool.or_false] at has1
        have e1 : (y.1.toList == k.toList) = false := by rw [str_eq]; exact decide_eq_false hk
        clear hk
        have OWN : Hid ((wr.alloc (.cells #[.string y.1, .string y.2] 25)).ownsRow B 25 2 (.slice A' q c') q ((turned k val (xs.take q)).flatMap prc)) := hide (HI.out.1.alloc _)
        go_wp2_with (at_builtin; refine wpList_append1 rfl (.tmp 28) (.tmp 30) 22 rfl B 25 i0 _ 2 32 Try.underlying22 hi0 hz0 hz1 hz2 rfl (by decide) (.slice A' q c') q _ (by simp [Act.eval]) OWN.out (prc (y)) (by simp [Act.eval]) rfl (prc_one _) (by omega) (by omega) (by simp; omega) ?_; intro v' w2 ho t2 hnw; obtain ⟨A2, c2, rfl⟩ := (Rd.of_own ho).shape; have HI2 := hide (show w2.ownsRow B 25 2 (.slice A2 (q + 1) c2) (q + 1) ((turned k val (xs.take (q + 1))).flatMap prc) ∧ Turn (fun _ => False) w w2 from ⟨by rw [hts.out, List.flatMap_append]; simpa using ho, HI.out.2.step (((Turn.refl _ wr).alloc _).step t2 (fun k hk h => h)) (fun g hg hk => by have := (ownsRow_base HI.out.1 hk).1; rw [HB.out] at this; omega)⟩); clear ho t2 hnw)
        go_roundw
        case rel => exact ⟨q + 1, by omega, by go_num, by rw [has1.out], ⟨A2, c2, rfl⟩, HI2⟩
        case measure => simp [intOf]; omega
    · obtain rfl : q = n := by omega
      have htk : xs.take q = xs := by rw [HN.out]; exact List.take_length
      rw [htk] at HI ⊢
      cases hany : xs.any (fun x => decide (x.1 = k)) with
      | true =>
        have hf : Hid (refSet xs k val = (turned k val xs, false)) := hide (by unfold refSet; rw [hany, if_pos rfl])
        have hl : (turned k val xs).length = q := by unfold turned; rw [List.length_map, HN.out]
        go_wp2_with fail
        go_ret2
        exact ⟨.slice A' q c', by rw [hf.out]; rfl, by rw [hf.out, hl]; exact HI.out.1, HI.out.2⟩
      | false =>
        have hf : Hid (refSet xs k val = (turned k val xs ++ [(k, val)], true)) := hide (by unfold refSet; rw [hany, if_neg (by decide)])
        have hl : (turned k val xs).length = q := by unfold turned; rw [List.length_map, HN.out]
        have hbw : B ≤ wr.heap.size := by rw [HB.out]; exact HI.out.2.size
        have OWN : Hid (wr.ownsRow B 25 2 (.slice A' q c') q ((turned k val xs).flatMap prc)) := hide HI.out.1
        go_wp2_with (at_builtin; refine wpList_append1 rfl (.tmp 34) (.tmp 38) 22 rfl B 25 i0 _ 2 32 Try.underlying22 hi0 hz0 hz1 hz2 rfl (by decide) (.slice A' q c') q _ (by simp [Act.eval]) OWN.out (prc (k, val)) (by simp [Act.eval]) rfl (prc_one _) (by omega) (by omega) hbw ?_; intro v' w2 ho t2 hnw; obtain ⟨A2, c2, rfl⟩ := (Rd.of_own ho).shape; have HI2 := hide (show w2.ownsRow B 25 2 (.slice A2 (q + 1) c2) (turned k val xs ++ [(k, val)]).length ((turned k val xs ++ [(k, val)]).flatMap prc) ∧ Turn (fun _ => False) w w2 from ⟨by rw [List.length_append, hl, List.flatMap_append]; simpa using ho, HI.out.2.step t2 (fun g hg hk => by have := (ownsRow_base HI.out.1 hk).1; rw [HB.out] at this; omega)⟩); clear ho t2 hnw)
        go_ret2
        exact ⟨.slice A2 (q + 1) c2, by rw [hf.out]; rfl, by rw [hf.out]; exact HI2.out.1, HI2.out.2⟩
end Go.Proofs.Ytcaeechlpadboaa
