/-
  MemOther: the walk.
-/
import Derived.Test.YtcaeechlpadboaaOther
import Derived.Test.YtcaeechlpadboaaOther0
import Derived.Test.YtcaeechlpadboaaLaw1
import Derived.Test.YtcaeechlpadboaaAwake
namespace Go.Proofs.Ytcaeechlpadboaa
open Go.RowKit Go.Maps Go.Shelf
attribute [local go_sem] Oper.semAt_some

theorem pos_atH {α : Type} (xs : List (ByteArray × α)) (hs : Srt xs) (i : Nat) (hi : i < xs.length) : pos xs (xs[i]).1 = i ∧ has xs (xs[i]).1 = true := by
  have hp : pos xs (xs[i]).1 = i := by
    refine pos_is xs _ hs i (by omega) (fun t ht hti => List.pairwise_iff_getElem.1 hs _ _ ht hi hti) (fun t ht hti h => ?_)
    rcases Nat.eq_or_lt_of_le hti with rfl | h2
    · exact kc_irrefl h
    · exact kc_irrefl (kc_trans h (List.pairwise_iff_getElem.1 hs _ _ hi ht h2))
  refine ⟨hp, (has_pos xs _ hs).2 ⟨by omega, ?_⟩⟩
  simp only [hp]
theorem getI_mem (xs : List MI.Ent) (hs : Srt xs) (y : MI.Ent) (hy : y ∈ xs) : MI.get xs y.1 = (y.2, true) := by
  obtain ⟨i, hi, rfl⟩ := List.getElem_of_mem hy
  obtain ⟨hp, hh⟩ := pos_atH xs hs i hi
  unfold MI.get
  rw [if_pos hh, hp, List.getElem?_eq_getElem hi]
  rfl
theorem key_oneH {α : Type} (xs : List (ByteArray × α)) (hs : Srt xs) (i j : Nat) (hi : i < xs.length) (hj : j < xs.length) (h : (xs[i]).1 = (xs[j]).1) : i = j := by
  have h1 := (pos_atH xs hs i hi).1
  have h2 := (pos_atH xs hs j hj).1
  rw [h] at h1
  omega
theorem othI_get (fx : MS.Ent → MI.V × Bool) (xs : List MS.Ent) (hs : Srt xs) (k : Nat) (hk : k < xs.length) : MI.get (OSI.oth fx xs) (xs[k]).1 = if (fx xs[k]).2 then ((fx xs[k]).1, true) else ((0 : Int), false) := by
  have hso := OSI.oth_srt fx xs hs
  have ho := OSI.oth_is fx xs hs
  by_cases h : (fx xs[k]).2 = true
  · rw [if_pos h]
    exact getI_mem _ hso ((xs[k]).1, (fx xs[k]).1) (by
      rw [ho, List.mem_map]
      exact ⟨xs[k], List.mem_filter.2 ⟨List.getElem_mem hk, h⟩, rfl⟩)
  · rw [if_neg h]
    have hh : has (OSI.oth fx xs) (xs[k]).1 = false := by
      rw [Bool.eq_false_iff]
      intro h2
      unfold has at h2
      rw [List.any_eq_true] at h2
      obtain ⟨y, hy, e⟩ := h2
      rw [ho, List.mem_map] at hy
      obtain ⟨z, hz, rfl⟩ := hy
      obtain ⟨hz1, hz2⟩ := List.mem_filter.1 hz
      obtain ⟨j, hj, rfl⟩ := List.getElem_of_mem hz1
      have := key_oneH xs hs j k hj hk (of_decide_eq_true e)
      subst this
      exact h hz2
    unfold MI.get
    rw [hh]
    rfl
def stays (fx : MS.Ent → MI.V × Bool) (xs : List MS.Ent) (k : Nat) : Nat := ((xs.take k).filter fun x => (fx x).2).length
theorem stays_succ (fx : MS.Ent → MI.V × Bool) (xs : List MS.Ent) (k : Nat) (hk : k < xs.length) : stays fx xs (k + 1) = stays fx xs k + if (fx xs[k]).2 then 1 else 0 := by
  unfold stays
  rw [List.take_succ_eq_append_getElem hk, List.filter_append, List.length_append]
  by_cases h : (fx xs[k]).2 = true <;> simp [h]
theorem stays_le (fx : MS.Ent → MI.V × Bool) (xs : List MS.Ent) (k : Nat) : stays fx xs k ≤ k := by
  unfold stays
  have := List.length_filter_le (fun x => (fx x).2) (xs.take k)
  have := List.length_take_le k xs
  omega
theorem stays_all (fx : MS.Ent → MI.V × Bool) (xs : List MS.Ent) (hs : Srt xs) : (OSI.oth fx xs).length = stays fx xs xs.length := by
  rw [OSI.oth_is fx xs hs, List.length_map]
  unfold stays
  rw [List.take_length]

/-- The document's list in a cell. -/
abbrev wls (B wb : Nat) (sl : Value) (R : List Pr) : List Thing := [box wb (.cells #[sl] 22 (0, 0)), row B 25 2 sl R.length (R.flatMap prc)]
theorem Lie.behind {B : Nat} {w0 w w' : World} {ts : List Thing} {R' : List Pr} {v' : Value} (h : Lie B w0 w ts) (np : NewPrs w w.heap.size R' v' w') : Lie B w0 w' (row B 25 2 v' R'.length (R'.flatMap prc) :: ts) :=
  h.push np.2 (MS.ownsRow_low np.1 h.base_le) (fun _ hk => (ownsRow_base np.1 hk).1)
theorem Lie.swapIn {B : Nat} {w0 w w' : World} {a b : Thing} {wb : Nat} {sl v' : Value} {R R' : List Pr} {rest : List Thing} (h : Lie B w0 w (a :: b :: (wls B wb sl R ++ rest))) (np : NewPrs w w.heap.size R' v' w') : Lie B w0 (w'.setCell ⟨wb, 0, none⟩ v') (a :: b :: (wls B wb v' R' ++ rest)) := by
  have h2 : Lie B w0 (w'.setCell ⟨wb, 0, none⟩ v') ([row B 25 2 v' R'.length (R'.flatMap prc), a, b, box wb (.cells #[v'] 22 (0, 0))] ++ row B 25 2 sl R.length (R.flatMap prc) :: rest) := (h.behind np).setBox 3 rfl 0 v'
  have h3 := (h2.perm List.perm_middle).pop
  exact h3.perm (List.perm_middle (l₁ := [a, b, box wb (.cells #[v'] 22 (0, 0))])).symm

set_option maxRecDepth 100000 in
set_option maxHeartbeats 8000000 in
theorem other3_any (v : Value) (most : Int) (l : List Pr) (w : World) (hl : Rd w 2 v l.length (l.flatMap prc)) (hmax : l.length ≤ maxLen) : Calls Try.prog 3 #[v, .int .i64 most] w fun e w' => e = .returned (.bool true) ∧ Below w.heap.size w w' := by
  have S0 := hide ((Lie.start w).alloc (.cells #[.int .i64 most] 3))
  have HL := hide hl
  obtain ⟨w0, rfl⟩ : ∃ w0, w0 = w := ⟨_, rfl⟩
  obtain ⟨B, hB⟩ : ∃ B, B = w0.heap.size := ⟨_, rfl⟩
  have HB := hide hB
  rw [← hB] at S0 ⊢
  clear hB
  obtain ⟨A, c, rfl⟩ := hl.shape
  obtain ⟨n, hnn⟩ : ∃ n, n = l.length := ⟨_, rfl⟩
  have HN := hide hnn
  rw [← hnn] at hmax ⊢
  unfold maxLen at hmax
  clear hl hnn
  go_enter Try.func3, Try.ntmps3
  go_wp2_with fail
  rw [← HB.out]
  refine (awake_L S0.out).mono ?_
  rintro e w1 ⟨rfl, S1⟩
  clear S0
  go_wp2_with fail
  go_loopw [5, 6] (fun s i wr => ∃ k m : Nat, k ≤ n ∧ k ≤ 101 ∧ m ≤ k * 40002 ∧ i = .int .i64 k ∧ s = .int .i64 m ∧ Hid (∀ t (ht : t < l.length), t < k → min (l[t]).1.size 20001 + min (l[t]).2.size 20001 ≤ m) ∧ Hid (∃ d, wr = w1.drewN d)) (fun _ i _ => n - (intOf i).toNat)
  case atStart => exact ⟨0, 0, by omega, by omega, by omega, rfl, rfl, hide (fun t _ h => by omega), hide ⟨0, rfl⟩⟩
  case round =>
    obtain ⟨k, m, hk, hk3, hm, rfl, rfl, HS, HD⟩ := hrel
    have SR : Hid (Lie B w0 wr [box B (.cells #[.int .i64 most] 3 (0, 0))]) := hide (by obtain ⟨d, hd⟩ := HD.out; rw [hd]; exact S1.out.drewN d)
    by_cases hlt : k < n ∧ k ≤ 100
    · obtain ⟨hlt, h3⟩ := hlt
      obtain ⟨b, o, rfl, hb, hc⟩ := pair_at l (HL.out.below (HB.out ▸ SR.out.below)) (by have := HN.out; omega)
      have hkl : k < l.length := by have := HN.out; omega
      obtain ⟨q1, q2⟩ := hc k hkl
      obtain ⟨s1, hs1⟩ : ∃ s, s = (l[k]).1 := ⟨_, rfl⟩
      obtain ⟨s2, hs2⟩ : ∃ s, s = (l[k]).2 := ⟨_, rfl⟩
      have HS2 : Hid (∀ t (ht : t < l.length), t < k + 1 → min (l[t]).1.size 20001 + min (l[t]).2.size 20001 ≤ m + min s1.size 20001 + min s2.size 20001) := hide (fun t ht h => by
        by_cases h2 : t < k
        · have := HS.out t ht h2; omega
        · obtain rfl : t = k := by omega
          rw [hs1, hs2]; omega)
      rw [← hs1] at q1
      rw [← hs2] at q2
      clear hc hs1 hs2 HS SR
      by_cases z1 : 20001 < s1.size
      · by_cases z2 : 20001 < s2.size
        · rw [Nat.min_eq_right (show 20001 ≤ s1.size by omega), Nat.min_eq_right (show 20001 ≤ s2.size by omega)] at HS2
          go_wp2_with fail
          go_quiet (fail)
          go_wp2_with fail
          go_roundw
          case rel => exact ⟨k + 1, m + 20001 + 20001, by omega, by omega, by omega, by go_num, by go_num, HS2, hide (by obtain ⟨d, hd⟩ := HD.out; rw [hd]; exact ⟨_, World.drewN_drewN ..⟩)⟩
          case measure => simp [intOf]; omega
        · rw [Nat.min_eq_right (show 20001 ≤ s1.size by omega), Nat.min_eq_left (show s2.size ≤ 20001 by omega)] at HS2
          go_wp2_with fail
          go_quiet (fail)
          go_wp2_with fail
          go_roundw
          case rel => exact ⟨k + 1, m + 20001 + s2.size, by omega, by omega, by omega, by go_num, by go_num, HS2, hide (by obtain ⟨d, hd⟩ := HD.out; rw [hd]; exact ⟨_, World.drewN_drewN ..⟩)⟩
          case measure => simp [intOf]; omega
      · by_cases z2 : 20001 < s2.size
        · rw [Nat.min_eq_left (show s1.size ≤ 20001 by omega), Nat.min_eq_right (show 20001 ≤ s2.size by omega)] at HS2
          go_wp2_with fail
          go_quiet (fail)
          go_wp2_with fail
          go_roundw
          case rel => exact ⟨k + 1, m + s1.size + 20001, by omega, by omega, by omega, by go_num, by go_num, HS2, hide (by obtain ⟨d, hd⟩ := HD.out; rw [hd]; exact ⟨_, World.drewN_drewN ..⟩)⟩
          case measure => simp [intOf]; omega
        · rw [Nat.min_eq_left (show s1.size ≤ 20001 by omega), Nat.min_eq_left (show s2.size ≤ 20001 by omega)] at HS2
          go_wp2_with fail
          go_quiet (fail)
          go_wp2_with fail
          go_roundw
          case rel => exact ⟨k + 1, m + s1.size + s2.size, by omega, by omega, by omega, by go_num, by go_num, HS2, hide (by obtain ⟨d, hd⟩ := HD.out; rw [hd]; exact ⟨_, World.drewN_drewN ..⟩)⟩
          case measure => simp [intOf]; omega
    · by_cases h1 : 100 < n
      · go_wp2_with fail
        all_goals (go_ret; exact ⟨rfl, SR.out.below⟩)
      · obtain rfl : k = n := by omega
        by_cases hbm : 20000 < m
        · go_wp2_with fail
          all_goals (go_ret; exact ⟨rfl, SR.out.below⟩)
        · have HSZ : Hid (∀ x ∈ l, x.1.size ≤ 20000 ∧ x.2.size ≤ 20000) := hide (fun x hx => by
            obtain ⟨t, ht, rfl⟩ := List.getElem_of_mem hx
            have := HS.out t ht (by have := HN.out; omega)
            omega)
          clear hlt HS hk hk3 hm HD
          go_wp2_with fail
          refine (MS.new_tb SR.out).mono ?_
          rintro e w2 ⟨T, v2, rfl, S2⟩
          clear SR S1
          go_wp2_with fail
          have S3 := hide (show Lie B w0 (w2.alloc (.cells #[.slice none 0 0] 22)) (MS.tb B T v2 false [] ++ (wls B w2.heap.size (.slice none 0 0) [] ++ [box B (.cells #[.int .i64 most] 3 (0, 0))])) from
            (((S2.out.alloc (.cells #[.slice none 0 0] 22)).push (t := row B 25 2 (.slice none 0 0) 0 []) (Turn.refl _ _) (World.ownsRow_nil _ _ _ _) (fun _ hk => by cases hk)).perm (by
              refine List.Perm.trans (List.Perm.swap _ _ _) ?_
              exact List.perm_append_comm_assoc [_, _] [_, _] _)))
          generalize w2.heap.size = wb at *
          clear S2
          have hn1 : k ≤ 100 := by omega
          go_loopw [9] (fun i wr => ∃ q : Nat, q ≤ k ∧ i = .int .i64 q ∧ ∃ v' sl, Lie B w0 wr (MS.tb B T v' false (tabS l q) ++ (wls B wb sl (refOf l q) ++ [box B (.cells #[.int .i64 most] 3 (0, 0))]))) (fun i _ => k - (intOf i).toNat)
          case atStart => exact ⟨0, by omega, rfl, v2, _, S3.out⟩
          case round =>
            clear S3
            obtain ⟨q, hq, rfl, v3, sl, hL⟩ := hrel
            have H := hide hL
            by_cases hlt : q < k
            · have hql : q < l.length := by have := HN.out; omega
              obtain ⟨b, o, rfl, hb, hc⟩ := pair_at l (HL.out.below (HB.out ▸ hL.below)) (by omega)
              have HCC : Hid (∀ W, Below B w0 W → W.cell? ⟨b, o + q * 2, none⟩ = some (.string (l[q]).1) ∧ W.cell? ⟨b, o + q * 2 + 1, none⟩ = some (.string (l[q]).2)) := hide (fun W hW => by
                obtain ⟨b', o', hbo, _, hc'⟩ := pair_at l (HL.out.below (HB.out ▸ hW)) (by omega)
                injection hbo with hbo
                injection hbo with hb1 hb2
                subst hb1 hb2
                exact hc' q hql)
              obtain ⟨r1, r2, r3, r4, r5, r6⟩ := ref_tab l q (by omega)
              have OK : Hid (MS.Ok (tabS l q) 1000) := hide ⟨r2, by omega⟩
              have hrs := refOf_succ l q hql
              have hts := tabS_succ l q hql
              have HRS := hide hrs
              have HTS := hide hts
              obtain ⟨s1, hs1⟩ : ∃ s, s = (l[q]).1 := ⟨_, rfl⟩
              obtain ⟨s2, hs2⟩ : ∃ s, s = (l[q]).2 := ⟨_, rfl⟩
              rw [← hs1, ← hs2] at HCC HRS HTS
              obtain ⟨q1, q2⟩ := HCC.out wr hL.below
              clear r1 r2 r4 r5 r6 hrs hts hc hL hs1 hs2
              go_wp2_with fail
              go_region_held3 (fun W => W.cell? ⟨b, o + q * 2, none⟩ = some (.string s1) ∧ W.cell? ⟨b, o + q * 2 + 1, none⟩ = some (.string s2)) (go_keep) ((go_at_call 13; refine (MS.set_tb s1 s2 OK.out (by omega) H.out.drew).mono ?_; rintro e w4 ⟨rfl, v4, S4⟩; obtain ⟨q3, q4⟩ := HCC.out w4 S4.out.below))
              go_wp2_with fail
              rw [← HTS.out] at S4
              obtain ⟨d0, g0⟩ := cell1 (S4.out.get 2 rfl)
              have S5 := hide S4.out.drew
              clear S4 H q1 q2
              refine wp_region_noPanic ?_
              refine wp_region_held_drew (S := (fun W => W.cell? ⟨b, o + q * 2, none⟩ = some (.string s1) ∧ W.cell? ⟨b, o + q * 2 + 1, none⟩ = some (.string s2))) (by kernel_rfl) (HCC.out _ S5.out.below) (fun hHeld => ?_)
              refine wpAnyH_take (i := 1) (oi := ?oi101) (v := ?v101) ?hi101 (by kernel_rfl) (by kernel_rfl) (by kernel_rfl) ?hQ101 ?hy101 hHeld ?rest101
              case hi101 => simp only [List.getElem?_toArray, List.getElem?_cons_succ, List.getElem?_cons_zero]; rfl
              case hQ101 => exact fun _ _ _ h => h
              case hy101 =>
                refine Or.inl ⟨by rfl, ?_⟩
                intro w' hSw
                go_simp
                try with_reducible rfl
              try simp only [Act.put, List.setIfInBounds_toArray, List.set_cons_zero, List.set_cons_succ]
              refine wpAnyH_take (i := 2) (oi := ?oi102) (v := ?v102) ?hi102 (by kernel_rfl) (by kernel_rfl) (by kernel_rfl) ?hQ102 ?hy102 hHeld ?rest102
              case hi102 => simp only [List.getElem?_toArray, List.getElem?_cons_succ, List.getElem?_cons_zero]; rfl
              case hQ102 => exact fun _ _ _ h => h
              case hy102 =>
                refine Or.inl ⟨by rfl, ?_⟩
                intro w' hSw
                go_simp
                try with_reducible rfl
              try simp only [Act.put, List.setIfInBounds_toArray, List.set_cons_zero, List.set_cons_succ]
              refine wpAnyH_take (i := 3) (oi := ?oi103) (v := ?v103) ?hi103 (by kernel_rfl) (by kernel_rfl) (by kernel_rfl) ?hQ103 ?hy103 hHeld ?rest103
              case hi103 => simp only [List.getElem?_toArray, List.getElem?_cons_succ, List.getElem?_cons_zero]; rfl
              case hQ103 => exact fun _ _ _ h => h
              case hy103 =>
                refine Or.inl ⟨by rfl, ?_⟩
                intro w' hSw
                go_simp
                try with_reducible rfl
              try simp only [Act.put, List.setIfInBounds_toArray, List.set_cons_zero, List.set_cons_succ]
              refine wpAnyH_take (i := 4) (oi := ?oi104) (v := ?v104) ?hi104 (by kernel_rfl) (by kernel_rfl) (by kernel_rfl) ?hQ104 ?hy104 hHeld ?rest104
              case hi104 => simp only [List.getElem?_toArray, List.getElem?_cons_succ, List.getElem?_cons_zero]; rfl
              case hQ104 => exact fun _ _ _ h => h
              case hy104 =>
                refine Or.inl ⟨by rfl, ?_⟩
                intro w' hSw
                go_simp
                try with_reducible rfl
              try simp only [Act.put, List.setIfInBounds_toArray, List.set_cons_zero, List.set_cons_succ]
              refine wpAnyH_take (i := 5) (oi := ?oi105) (v := ?v105) ?hi105 (by kernel_rfl) (by kernel_rfl) (by kernel_rfl) ?hQ105 ?hy105 hHeld ?rest105
              case hi105 => simp only [List.getElem?_toArray, List.getElem?_cons_succ, List.getElem?_cons_zero]; rfl
              case hQ105 => exact fun _ _ _ h => h
              case hy105 =>
                refine Or.inl ⟨by rfl, ?_⟩
                intro w' hSw
                obtain ⟨u1, u2⟩ := hSw
                go_simp
                try with_reducible rfl
              try simp only [Act.put, List.setIfInBounds_toArray, List.set_cons_zero, List.set_cons_succ]
              refine wpAnyH_take (i := 6) (oi := ?oi106) (v := ?v106) ?hi106 (by kernel_rfl) (by kernel_rfl) (by kernel_rfl) ?hQ106 ?hy106 hHeld ?rest106
              case hi106 => simp only [List.getElem?_toArray, List.getElem?_cons_succ, List.getElem?_cons_zero]; rfl
              case hQ106 => exact fun _ _ _ h => h
              case hy106 =>
                refine Or.inl ⟨by rfl, ?_⟩
                intro w' hSw
                go_simp
                try with_reducible rfl
              try simp only [Act.put, List.setIfInBounds_toArray, List.set_cons_zero, List.set_cons_succ]
              refine wpAnyH_take (i := 7) (oi := ?oi107) (v := ?v107) ?hi107 (by kernel_rfl) (by kernel_rfl) (by kernel_rfl) ?hQ107 ?hy107 hHeld ?rest107
              case hi107 => simp only [List.getElem?_toArray, List.getElem?_cons_succ, List.getElem?_cons_zero]; rfl
              case hQ107 => exact fun _ _ _ h => h
              case hy107 =>
                refine Or.inl ⟨by rfl, ?_⟩
                intro w' hSw
                go_simp
                try with_reducible rfl
              try simp only [Act.put, List.setIfInBounds_toArray, List.set_cons_zero, List.set_cons_succ]
              refine wpAnyH_take (i := 8) (oi := ?oi108) (v := ?v108) ?hi108 (by kernel_rfl) (by kernel_rfl) (by kernel_rfl) ?hQ108 ?hy108 hHeld ?rest108
              case hi108 => simp only [List.getElem?_toArray, List.getElem?_cons_succ, List.getElem?_cons_zero]; rfl
              case hQ108 => exact fun _ _ _ h => h
              case hy108 =>
                refine Or.inl ⟨by rfl, ?_⟩
                intro w' hSw
                go_simp
                try with_reducible rfl
              try simp only [Act.put, List.setIfInBounds_toArray, List.set_cons_zero, List.set_cons_succ]
              refine wpAnyH_take (i := 9) (oi := ?oi109) (v := ?v109) ?hi109 (by kernel_rfl) (by kernel_rfl) (by kernel_rfl) ?hQ109 ?hy109 hHeld ?rest109
              case hi109 => simp only [List.getElem?_toArray, List.getElem?_cons_succ, List.getElem?_cons_zero]; rfl
              case hQ109 => exact fun _ _ _ h => h
              case hy109 =>
                refine Or.inl ⟨by rfl, ?_⟩
                intro w' hSw
                go_simp
                try with_reducible rfl
              try simp only [Act.put, List.setIfInBounds_toArray, List.set_cons_zero, List.set_cons_succ]
              refine wpAnyH_take (i := 10) (oi := ?oi110) (v := ?v110) ?hi110 (by kernel_rfl) (by kernel_rfl) (by kernel_rfl) ?hQ110 ?hy110 hHeld ?rest110
              case hi110 => simp only [List.getElem?_toArray, List.getElem?_cons_succ, List.getElem?_cons_zero]; rfl
              case hQ110 => exact fun _ _ _ h => h
              case hy110 =>
                refine Or.inl ⟨by rfl, ?_⟩
                intro w' hSw
                obtain ⟨u1, u2⟩ := hSw
                go_simp
                try with_reducible rfl
              try simp only [Act.put, List.setIfInBounds_toArray, List.set_cons_zero, List.set_cons_succ]
              refine wpAnyH_ready (rs := [0]) (by kernel_rfl) (by simp) ?_
              refine AllReadyH.cons (o := ?oi100) ?hi100 ?st100 AllReadyH.nil
              case hi100 => simp only [List.getElem?_toArray, List.getElem?_cons_zero]; rfl
              intro K hK
              go_simp
              refine hK.out _ _ hHeld (fun hNew => ?_)
              clear hK K hHeld
              have hHeld := hNew
              clear hNew
              try simp only [Act.put, List.setIfInBounds_toArray, List.set_cons_zero, List.set_cons_succ]
              refine wpAnyH_ready (rs := [11]) (by kernel_rfl) (by simp) ?_
              refine AllReadyH.cons (o := ?oi111) ?hi111 ?st111 AllReadyH.nil
              case hi111 => simp only [List.getElem?_toArray, List.getElem?_cons_succ, List.getElem?_cons_zero]; rfl
              intro K hK
              go_simp
              go_at_call 14
              refine (refset_any (refOf l q) s1 s2 sl _ (by exact Rd.of_own (S5.out.get 3 rfl)) (by omega)).mono ?_
              rintro e w6 ⟨v6, rfl, NP⟩
              obtain ⟨A6, c6, rfl⟩ := (Rd.of_own NP.1).shape
              have NPH := hide NP
              have S6 := hide (S5.out.behind NPH.out)
              obtain ⟨q5, q6⟩ := HCC.out w6 S6.out.below
              obtain ⟨d1, g1⟩ := cell1 (S6.out.get 3 rfl)
              have S7 := hide (S5.out.swapIn NPH.out)
              obtain ⟨q7, q8⟩ := HCC.out _ S7.out.below
              clear NP
              try go_wp2_with fail
              refine hK.out _ _ ⟨q5, q6⟩ (fun hNew => ?_)
              clear hK K hHeld
              have hHeld := hNew
              clear hNew
              try simp only [Act.put, List.setIfInBounds_toArray, List.set_cons_zero, List.set_cons_succ]
              refine wpAnyH_take (i := 12) (oi := ?oi112) (v := ?v112) ?hi112 (by kernel_rfl) (by kernel_rfl) (by kernel_rfl) ?hQ112 ?hy112 hHeld ?rest112
              case hi112 => simp only [List.getElem?_toArray, List.getElem?_cons_succ, List.getElem?_cons_zero]; rfl
              case hQ112 => exact fun _ _ _ h => h
              case hy112 =>
                refine Or.inl ⟨by rfl, ?_⟩
                intro w' hSw
                go_simp
                try with_reducible rfl
              try simp only [Act.put, List.setIfInBounds_toArray, List.set_cons_zero, List.set_cons_succ]
              refine wpAnyH_take (i := 13) (oi := ?oi113) (v := ?v113) ?hi113 (by kernel_rfl) (by kernel_rfl) (by kernel_rfl) ?hQ113 ?hy113 hHeld ?rest113
              case hi113 => simp only [List.getElem?_toArray, List.getElem?_cons_succ, List.getElem?_cons_zero]; rfl
              case hQ113 => exact fun _ _ _ h => h
              case hy113 =>
                refine Or.inl ⟨by rfl, ?_⟩
                intro w' hSw
                go_simp
                try with_reducible rfl
              try simp only [Act.put, List.setIfInBounds_toArray, List.set_cons_zero, List.set_cons_succ]
              refine wpAnyH_take (i := 14) (oi := ?oi114) (v := ?v114) ?hi114 (by kernel_rfl) (by kernel_rfl) (by kernel_rfl) ?hQ114 ?hy114 hHeld ?rest114
              case hi114 => simp only [List.getElem?_toArray, List.getElem?_cons_succ, List.getElem?_cons_zero]; rfl
              case hQ114 => exact fun _ _ _ h => h
              case hy114 =>
                refine Or.inl ⟨by rfl, ?_⟩
                intro w' hSw
                go_simp
                try with_reducible rfl
              try simp only [Act.put, List.setIfInBounds_toArray, List.set_cons_zero, List.set_cons_succ]
              refine wpAnyH_ready (rs := [15]) (by kernel_rfl) (by simp) ?_
              refine AllReadyH.cons (o := ?oi115) ?hi115 ?st115 AllReadyH.nil
              case hi115 => simp only [List.getElem?_toArray, List.getElem?_cons_succ, List.getElem?_cons_zero]; rfl
              intro K hK
              go_simp
              refine hK.out _ _ ⟨q7, q8⟩ (fun hNew => ?_)
              clear hK K hHeld
              have hHeld := hNew
              clear hNew
              try simp only [Act.put, List.setIfInBounds_toArray, List.set_cons_zero, List.set_cons_succ]
              refine wpAnyH_done (by kernel_rfl) ?_ _
              refine NoPanic.normal ?_
              go_wp2_with fail
              go_roundw
              case rel => exact ⟨q + 1, by omega, by go_num, v4, _, by rw [HRS.out]; exact S7.out⟩
              case measure => simp [intOf]; omega
            · obtain rfl : q = k := by omega
              obtain ⟨r1, r2, r3, r4, r5, r6⟩ := ref_tab l q (by have := HN.out; omega)
              have HFT := hide (from_tab l q (by have := HN.out; omega))
              have OK : Hid (MS.Ok (tabS l q) 100) := hide ⟨r2, by omega⟩
              have HX : Hid (∀ x ∈ tabS l q, x.1.size ≤ 20000 ∧ x.2.size ≤ 20000) := hide (fun x hx => HSZ.out x (r6 x hx))
              have HRZ : Hid (∀ x ∈ refOf l q, x.1.size ≤ 1000000) := hide (fun x hx => by have := HX.out x ((r5 x).1 hx); omega)
              obtain ⟨d0, g0⟩ := cell1 (hL.get 2 rfl)
              clear r1 r2 r4 r5 r6 hL
              generalize refOf l q = R at *
              generalize tabS l q = xs at *
              go_wp2_with fail
              refine (reffrom_any R ⟨#[]⟩ sl wr (Rd.of_own (H.out.get 3 rfl)) (by omega) (by decide) HRZ.out).mono ?_
              rintro e w8 ⟨v8, rfl, NP⟩
              rw [HFT.out] at NP
              obtain ⟨A8, c8, rfl⟩ := (Rd.of_own NP.1).shape
              have S8 := hide (H.out.behind NP)
              obtain ⟨d1, g1⟩ := cell1 (S8.out.get 3 rfl)
              have S9 := hide (H.out.swapIn NP)
              clear S8 NP H HRZ HFT r3
              go_wp2_with fail
              have S10 : Hid (Lie B w0 (((w8.setCell ⟨wb, 0, none⟩ (.slice A8 xs.length c8)).alloc (.cells #[.int .i64 0] 3)).alloc (.cells #[.bool false] 4)) (MS.tb B T v3 false xs ++ (boxes4 B (w8.heap.size + 1) w8.heap.size wb B (.slice A8 xs.length c8) most xs 0 ++ []))) := hide (by
                have h := (S9.out.alloc (.cells #[.int .i64 0] 3)).alloc (.cells #[.bool false] 4)
                have e1 : (w8.setCell ⟨wb, 0, none⟩ (.slice A8 xs.length c8)).heap.size = w8.heap.size := by simp
                have e2 : ((w8.setCell ⟨wb, 0, none⟩ (.slice A8 xs.length c8)).alloc (.cells #[.int .i64 0] 3)).heap.size = w8.heap.size + 1 := by simp
                rw [e2, e1] at h
                exact h.perm ((List.perm_append_comm_assoc [_, _] [_, _] _).trans (List.Perm.append_left [_, _, _, _, _] (List.Perm.swap _ _ _))))
              generalize w8.heap.size + 1 = cw at *
              generalize w8.heap.size = ca at *
              have hf : ∀ pre x gs others W, pre ++ [x] <+: xs → gs = boxes4 B cw ca wb B (.slice A8 xs.length c8) most xs pre.length → Lie B w0 W (gs ++ others) → Calls Try.prog 16 #[.string x.1, MS.vv x.2, MI.pt cw, MI.pt ca, MI.pt wb, MI.pt B] W fun e w' => e = .returned (.tuple #[MI.vv (fOther most x).1, .bool (fOther most x).2]) ∧ ∃ gs', gs' = boxes4 B cw ca wb B (.slice A8 xs.length c8) most xs (pre ++ [x]).length ∧ Hid (Lie B w0 w' (gs' ++ others)) := by
                rintro pre x gs others W ⟨suf, hs⟩ rfl hW
                have hkp : pre.length < xs.length := by rw [← hs]; simp
                have hx : xs[pre.length] = x := by subst hs; simp
                have h16 := fn16_any hkp (by have := OK.out.hn; omega) (by have := (HX.out _ (List.getElem_mem hkp)).2; omega) hW
                rw [hx] at h16
                refine h16.mono ?_
                rintro e w' ⟨he, h3⟩
                exact ⟨he, _, by rw [List.length_append]; rfl, h3⟩
              refine (OSI.other_any OK.out (by omega) cw ca wb B (fOther most) (fun pre gs => gs = boxes4 B cw ca wb B (.slice A8 xs.length c8) most xs pre.length) _ rfl hf S10.out).mono ?_
              rintro e w11 ⟨To, vo, gs, rfl, rfl, S11⟩
              clear S9 S10 hf d0 g0 d1 g1
              obtain ⟨d0, g0⟩ := cell1 (S11.out.get 4 rfl)
              obtain ⟨d1, g1⟩ := cell1 (S11.out.get 5 rfl)
              obtain ⟨d2, g2⟩ := cell1 (S11.out.get 6 rfl)
              obtain ⟨d3, g3⟩ := cell1 (S11.out.get 7 rfl)
              go_wp2_with fail
              obtain ⟨OT, hOT⟩ : ∃ OT, OT = OSI.oth (fOther most) xs := ⟨_, rfl⟩
              have HOT := hide hOT
              rw [← hOT] at S11
              clear hOT
              have HTS : Hid (MI.Ok OT 100) := hide (by rw [HOT.out]; exact ⟨OSI.oth_srt _ _ OK.out.hs, by have := OSI.oth_le (fOther most) xs OK.out.hs; have := OK.out.hn; omega⟩)
              have hxn := OK.out.hn
              obtain ⟨N, hN⟩ : ∃ N, N = xs.length := ⟨_, rfl⟩
              have HNN := hide hN
              rw [← hN] at hxn d2 ⊢
              clear hN
              go_loopw [14, 15] (fun ev i wr => ∃ j : Nat, j ≤ N ∧ i = .int .i64 j ∧ ev = .int .i64 (stays (fOther most) xs j : Nat) ∧ Lie B w0 wr (MS.tb B T v3 true xs ++ (MI.tb B To vo false OT ++ (boxes4 B cw ca wb B (.slice A8 xs.length c8) most xs xs.length ++ [])))) (fun _ i _ => N - (intOf i).toNat)
              case atStart => exact ⟨0, by omega, rfl, rfl, S11.out⟩
              case round =>
                clear S11 d0 g0 d1 g1 d2 g2 d3 g3
                obtain ⟨j, hj, rfl, rfl, hL⟩ := hrel
                have H := hide hL
                have hst := stays_le (fOther most) xs j
                by_cases hlt : j < N
                · have hjx : j < xs.length := by have := HNN.out; omega
                  obtain ⟨b, o, rfl, hb, hc⟩ := pair_at xs (Rd.of_own (hL.get 8 rfl)) (by omega)
                  have HCC : Hid (∀ W, Lie B w0 W (MS.tb B T v3 true xs ++ (MI.tb B To vo false OT ++ (boxes4 B cw ca wb B (.slice (some ⟨b, o, none⟩) xs.length c8) most xs xs.length ++ []))) →
                      W.cell? ⟨wb, 0, none⟩ = some (.slice (some ⟨b, o, none⟩) N c8) ∧ W.cell? ⟨b, o + j * 2, none⟩ = some (.string (xs[j]).1) ∧ W.cell? ⟨b, o + j * 2 + 1, none⟩ = some (.string (xs[j]).2) ∧ W.cell? ⟨B, 0, none⟩ = some (.int .i64 most)) := hide (fun W hW => by
                    obtain ⟨b', o', hbo, _, hc'⟩ := pair_at xs (Rd.of_own (hW.get 8 rfl)) (by omega)
                    injection hbo with hbo
                    injection hbo with hb1 hb2
                    subst hb1 hb2
                    exact ⟨by rw [HNN.out]; exact (cell1 (hW.get 6 rfl)).1, (hc' j hjx).1, (hc' j hjx).2, (cell1 (hW.get 7 rfl)).1⟩)
                  have hgo := othI_get (fOther most) xs OK.out.hs j hjx
                  have hes := stays_succ (fOther most) xs j hjx
                  rw [← HOT.out] at hgo
                  have hfx : fOther most xs[j] = (((xs[j]).2.size : Int), decide (((xs[j]).2.size : Int) ≤ most)) := rfl
                  rw [hfx] at hgo hes
                  have hvs := (HX.out _ (List.getElem_mem hjx)).2
                  generalize (xs[j]).1 = key at *
                  generalize (xs[j]).2 = val at *
                  clear hc hfx hL
                  by_cases hle : (val.size : Int) ≤ most
                  · have hld := decide_eq_true hle
                    rw [hld] at hgo hes
                    rw [if_pos rfl] at hgo hes
                    have HGO := hide hgo
                    have HES := hide hes
                    clear hgo hes hle
                    obtain ⟨q1, q2, q3, q4⟩ := HCC.out wr H.out
                    go_wp2_with fail
                    refine (MI.get_any (j := 3) (k := 2) key ⟨rfl, rfl, HTS.out.hs, by have := HTS.out.hn; omega⟩ H.out).mono ?_
                    rintro e w12 ⟨rfl, H12⟩
                    rw [HGO.out]
                    clear H q1 q2 q3 q4
                    obtain ⟨q1, q2, q3, q4⟩ := HCC.out w12 H12.out
                    go_wp2_with fail
                    go_quiet (fail)
                    go_wp2_with fail
                    go_roundw
                    case rel => exact ⟨j + 1, by omega, by go_num, by rw [HES.out]; go_num, H12.out.drewN _⟩
                    case measure => simp [intOf]; omega
                  · have hld := decide_eq_false hle
                    rw [hld] at hgo hes
                    rw [if_neg (fun h => Bool.noConfusion h)] at hgo hes
                    have HGO := hide hgo
                    have HES := hide hes
                    clear hgo hes hle
                    obtain ⟨q1, q2, q3, q4⟩ := HCC.out wr H.out
                    go_wp2_with fail
                    refine (MI.get_any (j := 3) (k := 2) key ⟨rfl, rfl, HTS.out.hs, by have := HTS.out.hn; omega⟩ H.out).mono ?_
                    rintro e w12 ⟨rfl, H12⟩
                    rw [HGO.out]
                    clear H q1 q2 q3 q4
                    obtain ⟨q1, q2, q3, q4⟩ := HCC.out w12 H12.out
                    go_wp2_with fail
                    go_quiet (fail)
                    go_wp2_with fail
                    go_roundw
                    case rel => exact ⟨j + 1, by omega, by go_num, by rw [HES.out, Nat.add_zero], H12.out.drewN _⟩
                    case measure => simp [intOf]; omega
                · obtain rfl : j = N := by omega
                  obtain ⟨d2, g2⟩ := cell1 (hL.get 6 rfl)
                  rw [← HNN.out] at d2
                  have hall : Hid (OT.length = stays (fOther most) xs j) := hide (by rw [HOT.out, stays_all _ _ OK.out.hs, HNN.out])
                  clear hL
                  go_wp2_with fail
                  refine (OSI.other_nil cw ca wb B H.out).mono ?_
                  rintro e w14 ⟨Tp, vp, rfl, S14⟩
                  clear H d2 g2
                  go_wp2_with fail
                  refine (MI.len_any (j := 5) (k := 4) ⟨rfl, rfl, HTS.out.hs, by have := HTS.out.hn; omega⟩ S14.out).mono ?_
                  rintro e w15 ⟨rfl, S15⟩
                  rw [hall.out]
                  clear S14
                  go_wp2_with fail
                  refine (MI.len_any (j := 1) (k := 0) (xs := []) ⟨rfl, rfl, List.Pairwise.nil, Nat.zero_le _⟩ S15.out).mono ?_
                  rintro e w16 ⟨rfl, S16⟩
                  obtain ⟨d1, g1⟩ := cell1 (S16.out.get 7 rfl)
                  obtain ⟨d2, g2⟩ := cell1 (S16.out.get 8 rfl)
                  rw [← HNN.out] at d1 d2
                  clear S15
                  go_wp2_with fail
                  go_ret
                  exact ⟨by simp, S16.out.below⟩
end Go.Proofs.Ytcaeechlpadboaa
