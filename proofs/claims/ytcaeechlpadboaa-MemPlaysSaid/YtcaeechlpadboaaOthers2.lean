/-
  MemOthers: the walk.
-/
import Derived.Test.YtcaeechlpadboaaOthers
namespace Go.Proofs.Ytcaeechlpadboaa
open Go.RowKit Go.Maps Go.Shelf
attribute [local go_sem] Oper.semAt_some

theorem pos_atG {α : Type} (xs : List (ByteArray × α)) (hs : Srt xs) (i : Nat) (hi : i < xs.length) : pos xs (xs[i]).1 = i ∧ has xs (xs[i]).1 = true := by
  have hp : pos xs (xs[i]).1 = i := by
    refine pos_is xs _ hs i (by omega) (fun t ht hti => List.pairwise_iff_getElem.1 hs _ _ ht hi hti) (fun t ht hti h => ?_)
    rcases Nat.eq_or_lt_of_le hti with rfl | h2
    · exact kc_irrefl h
    · exact kc_irrefl (kc_trans h (List.pairwise_iff_getElem.1 hs _ _ hi ht h2))
  refine ⟨hp, (has_pos xs _ hs).2 ⟨by omega, ?_⟩⟩
  simp only [hp]
theorem getS_mem (xs : List MS.Ent) (hs : Srt xs) (y : MS.Ent) (hy : y ∈ xs) : MS.get xs y.1 = (y.2, true) := by
  obtain ⟨i, hi, rfl⟩ := List.getElem_of_mem hy
  obtain ⟨hp, hh⟩ := pos_atG xs hs i hi
  unfold MS.get
  rw [if_pos hh, hp, List.getElem?_eq_getElem hi]
  rfl
theorem key_one {α : Type} (xs : List (ByteArray × α)) (hs : Srt xs) (i j : Nat) (hi : i < xs.length) (hj : j < xs.length) (h : (xs[i]).1 = (xs[j]).1) : i = j := by
  have h1 := (pos_atG xs hs i hi).1
  have h2 := (pos_atG xs hs j hj).1
  rw [h] at h1
  omega
theorem othS_get (fx : MI.Ent → MS.V × Bool) (xs : List MI.Ent) (hs : Srt xs) (k : Nat) (hk : k < xs.length) : MS.get (OIS.oth fx xs) (xs[k]).1 = if (fx xs[k]).2 then ((fx xs[k]).1, true) else (⟨#[]⟩, false) := by
  have hso := OIS.oth_srt fx xs hs
  have ho := OIS.oth_is fx xs hs
  by_cases h : (fx xs[k]).2 = true
  · rw [if_pos h]
    exact getS_mem _ hso ((xs[k]).1, (fx xs[k]).1) (by
      rw [ho, List.mem_map]
      exact ⟨xs[k], List.mem_filter.2 ⟨List.getElem_mem hk, h⟩, rfl⟩)
  · rw [if_neg h]
    have hh : has (OIS.oth fx xs) (xs[k]).1 = false := by
      rw [Bool.eq_false_iff]
      intro h2
      unfold has at h2
      rw [List.any_eq_true] at h2
      obtain ⟨y, hy, e⟩ := h2
      rw [ho, List.mem_map] at hy
      obtain ⟨z, hz, rfl⟩ := hy
      obtain ⟨hz1, hz2⟩ := List.mem_filter.1 hz
      obtain ⟨j, hj, rfl⟩ := List.getElem_of_mem hz1
      have := key_one xs hs j k hj hk (of_decide_eq_true e)
      subst this
      exact h hz2
    unfold MS.get
    rw [hh]
    rfl
/-- How many of the first so many it let stand. -/
def evens (fx : MI.Ent → MS.V × Bool) (xs : List MI.Ent) (k : Nat) : Nat := ((xs.take k).filter fun x => (fx x).2).length
theorem evens_succ (fx : MI.Ent → MS.V × Bool) (xs : List MI.Ent) (k : Nat) (hk : k < xs.length) : evens fx xs (k + 1) = evens fx xs k + if (fx xs[k]).2 then 1 else 0 := by
  unfold evens
  rw [List.take_succ_eq_append_getElem hk, List.filter_append, List.length_append]
  by_cases h : (fx xs[k]).2 = true <;> simp [h]
theorem evens_le (fx : MI.Ent → MS.V × Bool) (xs : List MI.Ent) (k : Nat) : evens fx xs k ≤ k := by
  unfold evens
  have := List.length_filter_le (fun x => (fx x).2) (xs.take k)
  have := List.length_take_le k xs
  omega
theorem evens_all (fx : MI.Ent → MS.V × Bool) (xs : List MI.Ent) (hs : Srt xs) : (OIS.oth fx xs).length = evens fx xs xs.length := by
  rw [OIS.oth_is fx xs hs, List.length_map]
  unfold evens
  rw [List.take_length]

/-- The keys of the first so many lie there. -/
def AskG (base ab : Nat) (pre : List MI.Ent) (gs : List Thing) : Prop := ∃ va, gs = txts base ab va (pre.map (·.1))

set_option maxRecDepth 100000 in
set_option maxHeartbeats 8000000 in
theorem others_any (v : Value) (l : List ByteArray) (w : World) (hl : Rd w 1 v l.length (l.flatMap sc)) (hmax : l.length ≤ maxLen) : Calls Try.prog 5 #[v] w fun e w' => e = .returned (.bool true) ∧ Below w.heap.size w w' := by
  have S0 := hide (Lie.start w)
  have HL := hide hl
  obtain ⟨A, c, rfl⟩ := hl.shape
  obtain ⟨n, hnn⟩ : ∃ n, n = l.length := ⟨_, rfl⟩
  have HN := hide hnn
  rw [← hnn] at hmax ⊢
  unfold maxLen at hmax
  clear hl hnn
  go_enter Try.func5, Try.ntmps5
  go_wp2_with fail
  refine (awake_L S0.out).mono ?_
  rintro e w1 ⟨rfl, S1⟩
  clear S0
  go_wp2_with fail
  by_cases hbig : 300 < n
  · go_loop [3, 4] (fun s i => ∃ k m : Nat, k ≤ n ∧ k ≤ 301 ∧ m ≤ k * 30001 ∧ i = .int .i64 k ∧ s = .int .i64 m) (fun _ i => n - (intOf i).toNat)
    case atStart => exact ⟨0, 0, by omega, by omega, by omega, rfl, rfl⟩
    case round =>
      obtain ⟨k, m, hk, hk3, hm, rfl, rfl⟩ := hrel
      by_cases hlt : k < n ∧ k ≤ 300
      · obtain ⟨hlt, h3⟩ := hlt
        obtain ⟨b, o, rfl, hb, hc⟩ := txt_at l (HL.out.below S1.out.below) (by have := HN.out; omega)
        have k1 := hc k (by have := HN.out; omega)
        obtain ⟨s, hs⟩ : ∃ s, s = l[k]'(by have := HN.out; omega) := ⟨_, rfl⟩
        rw [← hs] at k1
        clear hc hs
        by_cases hsz : 30001 < s.size
        · go_wp2_with fail
          go_round
          case rel => exact ⟨k + 1, m + 30001, by omega, by omega, by omega, by go_num, by go_num⟩
          case measure => simp [intOf]; omega
        · go_wp2_with fail
          go_round
          case rel => exact ⟨k + 1, m + s.size, by omega, by omega, by omega, by go_num, by go_num⟩
          case measure => simp [intOf]; omega
      · go_wp2_with fail
        all_goals (go_ret; exact ⟨rfl, S1.out.below⟩)
  · go_loop [3, 4] (fun s i => ∃ k m : Nat, k ≤ n ∧ m ≤ k * 30001 ∧ i = .int .i64 k ∧ s = .int .i64 m ∧ Hid (∀ t (ht : t < l.length), t < k → min (l[t]).size 30001 ≤ m)) (fun _ i => n - (intOf i).toNat)
    case atStart => exact ⟨0, 0, by omega, by omega, rfl, rfl, hide (fun t _ h => by omega)⟩
    case round =>
      obtain ⟨k, m, hk, hm, rfl, rfl, HS⟩ := hrel
      by_cases hlt : k < n
      · obtain ⟨b, o, rfl, hb, hc⟩ := txt_at l (HL.out.below S1.out.below) (by have := HN.out; omega)
        have hkl : k < l.length := by have := HN.out; omega
        have k1 := hc k hkl
        obtain ⟨s, hs⟩ : ∃ s, s = l[k] := ⟨_, rfl⟩
        have HS2 : Hid (∀ t (ht : t < l.length), t < k + 1 → min (l[t]).size 30001 ≤ m + min s.size 30001) := hide (fun t ht h => by
          by_cases h2 : t < k
          · have := HS.out t ht h2; omega
          · obtain rfl : t = k := by omega
            rw [hs]; omega)
        rw [← hs] at k1
        clear hc hs HS
        by_cases hsz : 30001 < s.size
        · rw [Nat.min_eq_right (show 30001 ≤ s.size by omega)] at HS2
          go_wp2_with fail
          go_round
          case rel => exact ⟨k + 1, m + 30001, by omega, by omega, by go_num, by go_num, HS2⟩
          case measure => simp [intOf]; omega
        · rw [Nat.min_eq_left (show s.size ≤ 30001 by omega)] at HS2
          go_wp2_with fail
          go_round
          case rel => exact ⟨k + 1, m + s.size, by omega, by omega, by go_num, by go_num, HS2⟩
          case measure => simp [intOf]; omega
      · obtain rfl : k = n := by omega
        by_cases hbm : 30000 < m
        · go_wp2_with fail
          all_goals (go_ret; exact ⟨rfl, S1.out.below⟩)
        · have HSZ : Hid (∀ s ∈ l, s.size ≤ 30000) := hide (fun s hs => by
            obtain ⟨t, ht, rfl⟩ := List.getElem_of_mem hs
            have := HS.out t ht (by have := HN.out; omega)
            omega)
          clear hlt HS
          go_wp2_with fail
          rw [HN.out]
          refine (table_any (.slice A l.length c) l HL.out (by have := HN.out; omega) S1.out).mono ?_
          rintro e w2 ⟨T, v2, rfl, S2⟩
          have OK := hide ((tab_ok l l.length).mono (m := 1000) (by have := HN.out; omega))
          have HM := hide (fun y hy => tab_mem l l.length (Nat.le_refl _) y hy)
          have hn3 : Hid (l.length ≤ 300) := hide (by have := HN.out; omega)
          generalize tabOf l l.length = xs at *
          clear hbm hm hbig hmax S1
          go_wp2_with fail
          refine (MI.len_tb OK.out (by omega) S2.out).mono ?_
          rintro e w3 ⟨rfl, S3⟩
          clear S2
          go_wp2_with fail
          have S4 := hide (show Lie w.heap.size w (w3.alloc (.cells #[.slice none 0 0] 47)) (MI.tb w.heap.size T v2 false xs ++ (txts w.heap.size w3.heap.size (.slice none 0 0) [] ++ [])) from
            Lie.comm (ts := [row w.heap.size 9 1 (.slice none 0 0) 0 []]) ((S3.out.tuck (.cells #[.slice none 0 0] 47)).push (Turn.refl _ _) (World.ownsRow_nil _ _ _ _) (fun k hk => by cases hk)))
          generalize w3.heap.size = ab at *
          have hf : ∀ pre x gs others W, pre ++ [x] <+: xs → AskG w.heap.size ab pre gs → Lie w.heap.size w W (gs ++ others) → Calls Try.prog 26 #[.string x.1, MI.vv x.2, MI.pt ab] W fun e w' => e = .returned (.tuple #[MS.vv (fOthers x).1, .bool (fOthers x).2]) ∧ ∃ gs', AskG w.heap.size ab (pre ++ [x]) gs' ∧ Hid (Lie w.heap.size w w' (gs' ++ others)) := by
            rintro pre x gs others W hpre ⟨va, rfl⟩ hW
            obtain ⟨hx1, i, hx2, hx3⟩ := HM.out x (hpre.subset (by simp))
            have h1 : 0 ≤ (x.2 : Int) := by rw [hx2]; exact Int.natCast_nonneg i
            have h2 : (x.2 : Int) ≤ 1000 := by rw [hx2]; have := hn3.out; show (i : Int) ≤ 1000; omega
            have hpl := hpre.length_le
            simp at hpl
            refine (fn26_any x h1 h2 (HSZ.out _ hx1) (by have := OK.out.hn; simp; omega) hW).mono ?_
            rintro e w' ⟨he, va', h3⟩
            exact ⟨he, _, ⟨va', by rw [List.map_append]; rfl⟩, h3⟩
          refine (OIS.other_any OK.out (by omega) ab fOthers (AskG w.heap.size ab) _ ⟨_, rfl⟩ hf S4.out).mono ?_
          rintro e w5 ⟨To, vo, gs, rfl, ⟨va, rfl⟩, S5⟩
          have hown := S5.out.get 5 rfl
          obtain ⟨A2, c2, rfl⟩ := (Rd.of_own hown).shape
          obtain ⟨d0, g0⟩ := cell1 (S5.out.get 4 rfl)
          have hln : (xs.map (·.1)).length = xs.length := List.length_map _
          rw [hln] at d0
          clear S3 S4 hf hown
          go_wp2_with fail
          refine (MI.len_tb (rest := MS.tb w.heap.size To vo false (OIS.oth fOthers xs) ++ (txts w.heap.size ab (.slice A2 (xs.map (·.1)).length c2) (xs.map (·.1)) ++ [])) OK.out (by omega) S5.out).mono ?_
          rintro e w6 ⟨rfl, S6⟩
          clear S5 d0 g0
          go_wp2_with fail
          obtain ⟨ky, hky⟩ : ∃ ky, ky = xs.map (·.1) := ⟨_, rfl⟩
          rw [← hky] at S6 hln
          have HKY := hide hky
          clear hky
          obtain ⟨N, hN⟩ : ∃ N, N = xs.length := ⟨_, rfl⟩
          have HNN := hide hN
          rw [← hN] at hln ⊢
          have hN1 : N ≤ 1000 := by have := OK.out.hn; omega
          have HLN := hide hln
          clear hN
          go_loopw [9, 10] (fun ev i wr => ∃ k : Nat, k ≤ N ∧ i = .int .i64 k ∧ ev = .int .i64 (evens fOthers xs k : Nat) ∧ Lie w.heap.size w wr (MI.tb w.heap.size T v2 true xs ++ (MS.tb w.heap.size To vo false (OIS.oth fOthers xs) ++ (txts w.heap.size ab (.slice A2 ky.length c2) ky ++ [])))) (fun _ i _ => N - (intOf i).toNat)
          case atStart => exact ⟨0, by omega, rfl, rfl, S6.out⟩
          case round =>
            clear S6
            obtain ⟨k, hk, rfl, rfl, hL⟩ := hrel
            have H := hide hL
            obtain ⟨d0, g0⟩ := cell1 (hL.get 4 rfl)
            rw [hln] at d0
            have hev := evens_le fOthers xs k
            by_cases hlt : k < N
            · have hkx : k < xs.length := by have := HNN.out; omega
              have hkk : k < ky.length := by omega
              obtain ⟨b, o, rfl, hb, hc⟩ := txt_at ky (Rd.of_own (hL.get 5 rfl)) (by omega)
              have hg := get_at xs OK.out.hs k hkx
              have hgo := othS_get fOthers xs OK.out.hs k hkx
              have hes := evens_succ fOthers xs k hkx
              obtain ⟨hx1, i, hx2, hx3⟩ := HM.out xs[k] (List.getElem_mem hkx)
              have hks := HSZ.out _ hx1
              have hfx : fOthers xs[k] = ((xs[k]).1 ++ ⟨#[33]⟩, ((i : Int) % 2 == 0)) := by
                unfold fOthers
                rw [hx2, show ((i : Int)).tmod 2 = (i : Int) % 2 from Int.tmod_eq_emod_of_nonneg (Int.natCast_nonneg i)]
              rw [hx2] at hg
              rw [hfx] at hgo hes
              have HCC : Hid (∀ W, Lie w.heap.size w W (MI.tb w.heap.size T v2 true xs ++ (MS.tb w.heap.size To vo false (OIS.oth fOthers xs) ++ (txts w.heap.size ab (.slice (some ⟨b, o, none⟩) ky.length c2) ky ++ []))) →
                  W.cell? ⟨ab, 0, none⟩ = some (.slice (some ⟨b, o, none⟩) N c2) ∧ W.cell? ⟨b, o + k, none⟩ = some (.string (xs[k]).1) ∧ (0 < k → ∃ kq, W.cell? ⟨b, o + (k - 1), none⟩ = some (.string kq) ∧ kc kq (xs[k]).1 < 0)) := hide (fun W hW => by
                obtain ⟨b', o', hbo, _, hc'⟩ := txt_at ky (Rd.of_own (hW.get 5 rfl)) (by omega)
                injection hbo with hbo
                injection hbo with hb1 hb2
                subst hb1 hb2
                refine ⟨by rw [← HLN.out]; exact (cell1 (hW.get 4 rfl)).1, ?_, fun h0 => ⟨(xs[k - 1]'(by omega)).1, ?_, ?_⟩⟩
                · rw [hc' k hkk]; simp only [HKY.out, List.getElem_map]
                · rw [hc' (k - 1) (by omega)]; simp only [HKY.out, List.getElem_map]
                · exact List.pairwise_iff_getElem.1 OK.out.hs _ _ (by omega) hkx (by omega))
              have hos : MS.At w.heap.size (MI.tb w.heap.size T v2 true xs ++ (MS.tb w.heap.size To vo false (OIS.oth fOthers xs) ++ (txts w.heap.size ab (.slice (some ⟨b, o, none⟩) ky.length c2) ky ++ []))) 3 2 To vo false (OIS.oth fOthers xs) := ⟨rfl, rfl, OIS.oth_srt fOthers xs OK.out.hs, by have := OIS.oth_le fOthers xs OK.out.hs; have := OK.out.hn; omega⟩
              have HOS := hide hos
              generalize (xs[k]).1 = key at *
              clear hc hx1 hx2 hx3 hfx hos hkk hL
              have HG := hide hg
              have HGO := hide hgo
              have HES := hide hes
              have htm : (i : Int).tmod 2 = (i : Int) % 2 := Int.tmod_eq_emod_of_nonneg (Int.natCast_nonneg i)
              have hw2 : IntKind.i64.wrap ((i : Int) % 2) = (i : Int) % 2 := IntWalk.i64_in _ (by omega)
              have hsz : ¬ 9223372036854775807 < key.size + (⟨#[33]⟩ : ByteArray).size := by
                have : (⟨#[33]⟩ : ByteArray).size = 1 := rfl
                omega
              have hkz : (0 : Int) ≤ (k : Int) - 1 ∨ k = 0 := by omega
              clear hg hgo hes
              obtain ⟨q1, q2, _⟩ := HCC.out wr H.out
              go_wp2_with fail
              refine (MI.get_tb key OK.out (by omega) H.out).mono ?_
              rintro e w7 ⟨rfl, H7⟩
              rw [HG.out]
              clear H q1 q2 d0 g0
              obtain ⟨q1, q2, _⟩ := HCC.out w7 H7.out
              go_wp2_with fail
              refine (MS.get_any key HOS.out H7.out).mono ?_
              rintro e w8 ⟨rfl, H8⟩
              clear H7 q1 q2
              obtain ⟨q1, q2, q3⟩ := HCC.out w8 H8.out
              cases hb2 : ((i : Int) % 2 == 0)
              · have hgo2 := HGO.out
                rw [hb2, if_neg (by decide)] at hgo2
                rw [hgo2]
                have HEV : Hid (evens fOthers xs (k + 1) = evens fOthers xs k) := hide (by have := HES.out; rw [hb2, if_neg (by decide), Nat.add_zero] at this; exact this)
                clear hgo2
                by_cases hk0 : 0 < k
                · obtain ⟨kq, q4, q5⟩ := q3 hk0
                  have hle : (Op.bytesLess key.toList kq.toList || key.toList == kq.toList) = false := by
                    rw [str_lt, str_eq]
                    have h1 : ¬ kc key kq < 0 := fun h => kc_irrefl (kc_trans h q5)
                    have h2 : ¬ key = kq := fun h => by rw [h] at q5; exact kc_irrefl q5
                    simp [h1, h2]
                  have hk1 : ((k : Int) - 1).toNat = k - 1 := by omega
                  have hk1' : (k : Int) - 1 = ((k - 1 : Nat) : Int) := by omega
                  generalize hlv : (Op.bytesLess key.toList kq.toList || key.toList == kq.toList) = lv at *
                  clear q3 q5
                  go_wp2_with fail
                  go_quiet (fail)
                  go_wp2_with fail
                  go_roundw
                  case rel => exact ⟨k + 1, by omega, by go_num, by rw [HEV.out]; try go_num, H8.out.drewN _⟩
                  case measure => simp [intOf]; omega
                · have hk0' : ¬ (0 : Int) < (k : Int) := by omega
                  clear q3
                  go_wp2_with fail
                  go_quiet (fail)
                  go_wp2_with fail
                  go_roundw
                  case rel => exact ⟨k + 1, by omega, by go_num, by rw [HEV.out]; try go_num, H8.out.drewN _⟩
                  case measure => simp [intOf]; omega
              · have hgo2 := HGO.out
                rw [hb2, if_pos rfl] at hgo2
                rw [hgo2]
                have HEV : Hid (evens fOthers xs (k + 1) = evens fOthers xs k + 1) := hide (by have := HES.out; rw [hb2, if_pos rfl] at this; exact this)
                have e9 : ((key ++ ⟨#[33]⟩ : ByteArray).toList == (key ++ ⟨#[33]⟩ : ByteArray).toList) = true := by simp
                clear hgo2
                by_cases hk0 : 0 < k
                · obtain ⟨kq, q4, q5⟩ := q3 hk0
                  have hle : (Op.bytesLess key.toList kq.toList || key.toList == kq.toList) = false := by
                    rw [str_lt, str_eq]
                    have h1 : ¬ kc key kq < 0 := fun h => kc_irrefl (kc_trans h q5)
                    have h2 : ¬ key = kq := fun h => by rw [h] at q5; exact kc_irrefl q5
                    simp [h1, h2]
                  have hk1 : ((k : Int) - 1).toNat = k - 1 := by omega
                  have hk1' : (k : Int) - 1 = ((k - 1 : Nat) : Int) := by omega
                  generalize hlv : (Op.bytesLess key.toList kq.toList || key.toList == kq.toList) = lv at *
                  clear q3 q5
                  go_wp2_with fail
                  go_quiet (fail)
                  go_wp2_with fail
                  go_roundw
                  case rel => exact ⟨k + 1, by omega, by go_num, by rw [HEV.out]; try go_num, H8.out.drewN _⟩
                  case measure => simp [intOf]; omega
                · have hk0' : ¬ (0 : Int) < (k : Int) := by omega
                  clear q3
                  go_wp2_with fail
                  go_quiet (fail)
                  go_wp2_with fail
                  go_roundw
                  case rel => exact ⟨k + 1, by omega, by go_num, by rw [HEV.out]; try go_num, H8.out.drewN _⟩
                  case measure => simp [intOf]; omega
            · obtain rfl : k = N := by omega
              have hos : MS.At w.heap.size (MI.tb w.heap.size T v2 true xs ++ (MS.tb w.heap.size To vo false (OIS.oth fOthers xs) ++ (txts w.heap.size ab (.slice A2 ky.length c2) ky ++ []))) 3 2 To vo false (OIS.oth fOthers xs) := ⟨rfl, rfl, OIS.oth_srt fOthers xs OK.out.hs, by have := OIS.oth_le fOthers xs OK.out.hs; have := OK.out.hn; omega⟩
              have HLE := hide (MS.len_any hos H.out)
              have hall : Hid ((OIS.oth fOthers xs).length = evens fOthers xs k) := hide (by rw [evens_all fOthers xs OK.out.hs, HNN.out])
              clear hL hos
              go_wp2_with fail
              refine HLE.out.mono ?_
              rintro e w7 ⟨rfl, H7⟩
              rw [hall.out]
              clear HLE d0 g0
              go_wp2_with fail
              go_ret
              exact ⟨by simp, H7.out.below⟩
end Go.Proofs.Ytcaeechlpadboaa
