/-
  MemFloors: the walk.
-/
import Derived.Test.YtcaeechlpadboaaFlaw
namespace Go.Proofs.Ytcaeechlpadboaa
open Go.RowKit Go.Maps Go.Shelf
attribute [local go_sem] Oper.semAt_some
open MI

/-- A new block, laid behind the table. -/
theorem Lie.tuck {base : Nat} {w0 w : World} {a b : Thing} {rest : List Thing} (h : Lie base w0 w (a :: b :: rest)) (o : Obj) : Lie base w0 (w.alloc o) (a :: b :: box w.heap.size o :: rest) :=
  (h.alloc o).perm ((List.Perm.swap _ _ _).trans (.cons _ (.swap _ _ _)))
abbrev sbox (b : Nat) (s : ByteArray) : Thing := box b (.cells #[.string s] 9 (0, 0))
abbrev bbox (b : Nat) (x : Bool) : Thing := box b (.cells #[.bool x] 4 (0, 0))

/-- What lies there between two rounds. -/
def FlI (base T : Nat) (v : Value) (xs : List MI.Ent) (lb : Nat) (sl : Value) (fb wb kb : Nat) (key : ByteArray) (pre : List MI.Ent) (js : List Thing) : Prop :=
  js = tb base T v true xs ++ [lbx lb sl, bbox fb (wantOf key pre).2, sbox wb (wantOf key pre).1, sbox kb key]

set_option maxRecDepth 100000 in
set_option maxHeartbeats 8000000 in
theorem floors_any (v : Value) (l : List ByteArray) (key : ByteArray) (w : World) (hl : Rd w 1 v l.length (l.flatMap sc)) (hmax : l.length ≤ maxLen) : Calls Try.prog 7 #[v, .string key] w fun e w' => e = .returned (.bool true) ∧ Below w.heap.size w w' := by
  have hq := fun fi ca W => run_eql_func_nil (P := Try.prog) W 42 (.func 58) fi ca Try.underlying42
  have S0 := hide ((Lie.start w).alloc (.cells #[.string key] 9))
  have HL := hide hl
  obtain ⟨A, c, rfl⟩ := hl.shape
  obtain ⟨n, hnn⟩ : ∃ n, n = l.length := ⟨_, rfl⟩
  have HN := hide hnn
  rw [← hnn] at hmax ⊢
  unfold maxLen at hmax
  clear hl hnn
  refine callsIn_wide.1 (callsIn_of_wp_marks (n := 1) (F := Fence.wide) Try.func7 rfl trivial (wpIn_wide.2 ?_) rfl)
  simp only [Try.ntmps7, List.size_toArray, List.length_cons, List.length_nil, Nat.reduceAdd, Nat.reduceSub, Array.replicate_succ, Array.replicate_zero, List.push_toArray, List.append_toArray, List.nil_append, List.cons_append]
  go_wp2_with fail
  refine (awake_L S0.out).mono ?_
  rintro e w1 ⟨rfl, S1⟩
  clear S0
  go_wp2_with fail
  obtain ⟨kc0, kf0⟩ := cell1 (S1.out.get 0 rfl)
  by_cases hbig : 300 < n
  · go_loop [5, 6] (fun s i => ∃ k m : Nat, k ≤ n ∧ k ≤ 301 ∧ m ≤ k * 30001 ∧ i = .int .i64 k ∧ s = .int .i64 m) (fun _ i => n - (intOf i).toNat)
    case atStart => exact ⟨0, 0, by omega, by omega, by omega, rfl, rfl⟩
    case round =>
      obtain ⟨k, m, hk, hk3, hm, rfl, rfl⟩ := hrel
      by_cases hlt : k < n ∧ k ≤ 300
      · obtain ⟨hlt, h3⟩ := hlt
        obtain ⟨b, o, rfl, hb, hc⟩ := txt_at l (HL.out.below S1.out.below) (by have := HN.out; omega)
        have k1 := hc k (by have := HN.out; omega)
        obtain ⟨s, hs⟩ : ∃ s, s = l[k]'(by have := HN.out; omega) := ⟨_, rfl⟩
        rw [← hs] at k1
        clear hc hs
        by_cases hsz : 30001 < s.size
        · go_wp2_with fail
          go_round
          case rel => exact ⟨k + 1, m + 30001, by omega, by omega, by omega, by go_num, by go_num⟩
          case measure => simp [intOf]; omega
        · go_wp2_with fail
          go_round
          case rel => exact ⟨k + 1, m + s.size, by omega, by omega, by omega, by go_num, by go_num⟩
          case measure => simp [intOf]; omega
      · go_wp2_with fail
        all_goals exact ⟨_, results_tmp rfl _ _ _, rfl, S1.out.below⟩
  · go_loop [5, 6] (fun s i => ∃ k m : Nat, k ≤ n ∧ m ≤ k * 30001 ∧ i = .int .i64 k ∧ s = .int .i64 m) (fun _ i => n - (intOf i).toNat)
    case atStart => exact ⟨0, 0, by omega, by omega, rfl, rfl⟩
    case round =>
      obtain ⟨k, m, hk, hm, rfl, rfl⟩ := hrel
      by_cases hlt : k < n
      · obtain ⟨b, o, rfl, hb, hc⟩ := txt_at l (HL.out.below S1.out.below) (by have := HN.out; omega)
        have k1 := hc k (by have := HN.out; omega)
        obtain ⟨s, hs⟩ : ∃ s, s = l[k]'(by have := HN.out; omega) := ⟨_, rfl⟩
        rw [← hs] at k1
        clear hc hs
        by_cases hsz : 30001 < s.size
        · go_wp2_with fail
          go_round
          case rel => exact ⟨k + 1, m + 30001, by omega, by omega, by go_num, by go_num⟩
          case measure => simp [intOf]; omega
        · go_wp2_with fail
          go_round
          case rel => exact ⟨k + 1, m + s.size, by omega, by omega, by go_num, by go_num⟩
          case measure => simp [intOf]; omega
      · obtain rfl : k = n := by omega
        by_cases hbig2 : 30000 < m ∨ 30000 < key.size
        · rcases hbig2 with hbig2 | hbig2
          · go_wp2_with fail
            all_goals exact ⟨_, results_tmp rfl _ _ _, rfl, S1.out.below⟩
          · by_cases hbm : 30000 < m
            · go_wp2_with fail
              all_goals exact ⟨_, results_tmp rfl _ _ _, rfl, S1.out.below⟩
            · go_wp2_with fail
              all_goals exact ⟨_, results_tmp rfl _ _ _, rfl, S1.out.below⟩
        · have hb1 : ¬ 30000 < m := fun h => hbig2 (.inl h)
          have hb2 : ¬ 30000 < key.size := fun h => hbig2 (.inr h)
          clear hbig2 hlt
          go_wp2_with fail
          rw [HN.out]
          refine (table_any (.slice A l.length c) l HL.out (by have := HN.out; omega) S1.out).mono ?_
          rintro e w2 ⟨T, v2, rfl, S2⟩
          have OK := hide ((tab_ok l l.length).mono (m := 1000) (by have := HN.out; omega))
          generalize tabOf l l.length = xs at *
          clear kc0 kf0 S1
          go_wp2_with fail
          clear hb1 hb2 hm hbig hmax
          have S3 := hide ((S2.out.tuck (.cells #[.string k0] 9)).tuck (.cells #[.bool false] 4))
          simp only [World.size_alloc] at S3
          obtain ⟨w3, hw3⟩ : ∃ w3, w3 = (w2.alloc (.cells #[.string k0] 9)).alloc (.cells #[.bool false] 4) := ⟨_, rfl⟩
          rw [← hw3] at S3 ⊢
          obtain ⟨fb, hfb⟩ : ∃ fb, fb = w2.heap.size + 1 := ⟨_, rfl⟩
          rw [← hfb] at S3 ⊢
          generalize w2.heap.size = wb at *
          clear hw3 hfb S2
          refine (from_tb (rest := [bbox fb false, sbox wb k0, sbox w.heap.size key]) k0 OK.out (by omega) S3.out).mono ?_
          rintro e w4 ⟨lb, sl, rfl, HT, S4⟩
          rw [pos_empty] at HT
          clear S3
          go_wp2_with fail
          refine wp_rangeFunc2 [(11, fun x => .string x.1)] (gf := 58) (lb := #[pt lb]) rfl enters1 (iter_any w.heap.size lb 0 sl v2 xs HT.out (by have := OK.out.hn; omega)) (FlI w.heap.size T v2 xs lb sl fb wb w.heap.size key) (fun _ _ _ => False) (fun pre js h => by rw [h]; exact ⟨.tail _ (.tail _ (.head _)), .head _⟩) (fun t js h => h.up t js) rfl S4.out ?assign ?body ?done ?stop
          case assign =>
            intro l m x W2 K hK
            simp only [asgAct, List.foldl_cons, List.foldl_nil, List.setIfInBounds_toArray, List.set_cons_zero, List.set_cons_succ] at hK
            gi_wp2
            exact hK
          case stop =>
            rintro D c pre ks W2 _ h _
            exact h.elim
          case body =>
            clear S4
            rintro l m pre x us ks W2 hpre rfl hL
            have HLL := hide hL
            obtain ⟨c0, f0⟩ := cell1 (hL.get 3 rfl)
            obtain ⟨c1, f1⟩ := cell1 (hL.get 4 rfl)
            obtain ⟨c2, f2⟩ := cell1 (hL.get 5 rfl)
            have n34 : fb ≠ wb := hL.ne 3 4 rfl rfl (by decide)
            have n43 : wb ≠ fb := fun e => n34 e.symm
            have hs := wantOf_snoc key pre x
            by_cases hle : kc x.1 key ≤ 0
            · rw [if_pos hle] at hs
              have HS := hide hs
              have hb : (Op.bytesLess x.1.toList key.toList || x.1.toList == key.toList) = true := by
                rw [str_lt, str_eq]
                rcases Int.lt_or_eq_of_le hle with h | h
                · simp [h]
                · simp [kc_eq h]
              clear hL hpre hs hle
              generalize hbv : (Op.bytesLess x.1.toList key.toList || x.1.toList == key.toList) = bv at *
              simp only [asgAct, List.foldl_cons, List.foldl_nil, List.setIfInBounds_toArray, List.set_cons_zero, List.set_cons_succ]
              gi_wp2_with fail
              exact ⟨_, by unfold FlI; rw [HS.out], (HLL.out.setBox 4 rfl 0 (.string x.1)).setBox 3 rfl 0 (.bool true)⟩
            · rw [if_neg hle] at hs
              have HS := hide hs
              have hb : (Op.bytesLess x.1.toList key.toList || x.1.toList == key.toList) = false := by
                rw [str_lt, str_eq]
                have h1 : ¬ kc x.1 key < 0 := fun h => hle (Int.le_of_lt h)
                have h2 : ¬ x.1 = key := fun h => hle (by rw [h, kc_self]; exact Int.le_refl _)
                simp [h1, h2]
              clear hL hpre hs hle
              generalize hbv : (Op.bytesLess x.1.toList key.toList || x.1.toList == key.toList) = bv at *
              simp only [asgAct, List.foldl_cons, List.foldl_nil, List.setIfInBounds_toArray, List.set_cons_zero, List.set_cons_succ]
              gi_wp2_with fail
              exact ⟨_, by unfold FlI; rw [HS.out], HLL.out⟩
          case done =>
            rintro D ks W2 rfl hL
            have L5 := hide (show Lie w.heap.size w W2 (tb w.heap.size T v2 true xs ++ ([bbox fb (wantOf key xs).2, sbox wb (wantOf key xs).1, sbox w.heap.size key, box D (.deferred (some []))])) from Lie.comm (ts := [box D (.deferred (some []))]) (hL.erase 3))
            obtain ⟨hf1, hf2⟩ := want_floor xs OK.out.hs key
            obtain ⟨hg1, hg2⟩ := floor_get xs OK.out.hs key
            rw [← hf1, ← hf2] at L5
            have HG1 := hide hg1
            have HG2 := hide hg2
            obtain ⟨c0, f0⟩ := cell1 (L5.out.get 2 rfl)
            obtain ⟨c1, f1⟩ := cell1 (L5.out.get 3 rfl)
            obtain ⟨c2, f2⟩ := cell1 (L5.out.get 4 rfl)
            clear hL S4 hf1 hf2 hg1 hg2
            go_wp2_with fail
            refine (floor_tb key OK.out (by omega) L5.out).mono ?_
            rintro e w5 ⟨rfl, L6⟩
            generalize (MI.floor xs key).1 = g1 at *
            generalize (MI.floor xs key).2.1 = gv at *
            generalize (MI.floor xs key).2.2 = gb at *
            obtain ⟨c0, f0⟩ := cell1 (L6.out.get 2 rfl)
            obtain ⟨c1, f1⟩ := cell1 (L6.out.get 3 rfl)
            obtain ⟨c2, f2⟩ := cell1 (L6.out.get 4 rfl)
            clear L5
            go_wp2_with fail
            refine (get_tb key OK.out (by omega) L6.out).mono ?_
            rintro e w6 ⟨rfl, L7⟩
            clear c0 f0 c1 f1 c2 f2
            go_wp2_with fail
            refine (get_tb g1 OK.out (by omega) L7.out).mono ?_
            rintro e w7 ⟨rfl, L8⟩
            obtain ⟨c2, f2⟩ := cell1 (L8.out.get 4 rfl)
            have hK : _ = _ := L8.out.get 5 rfl
            have fin : Hid (Below w.heap.size w (w7.putObj D (.deferred none))) := hide (L8.out.put 5 rfl (.deferred none)).below
            have HK := hide (run_takeDeferred (P := Try.prog) hK)
            have hgk := HG2.out
            have hg1 := HG1.out
            generalize (MI.get xs key).1 = u1 at *
            generalize (MI.get xs key).2 = u2 at *
            generalize (MI.get xs g1).1 = u3 at *
            generalize (MI.get xs g1).2 = u4 at *
            clear L6 L7 L8 hK HG1 HG2
            cases gb with
            | false =>
              cases u2 with
              | true => exact absurd (hgk rfl).1 (by decide)
              | false =>
                clear hgk hg1
                go_wp2_with fail
                refine ⟨by simp, .inl ⟨_, _, rfl, HK.out, ?_⟩⟩
                exact ⟨_, results_tmp rfl _ _ _, rfl, fin.out⟩
            | true =>
              obtain rfl : u3 = gv := hg1 rfl
              cases u2 with
              | false =>
                have e1 : (u3 == u3) = true := by simp
                clear hgk hg1
                go_wp2_with fail
                refine ⟨by simp, .inl ⟨_, _, rfl, HK.out, ?_⟩⟩
                exact ⟨_, results_tmp rfl _ _ _, rfl, fin.out⟩
              | true =>
                obtain ⟨_, rfl, rfl⟩ := hgk rfl
                have e1 : (u1 == u1) = true := by simp
                have e2 : (g1.toList == g1.toList) = true := by simp
                clear hgk hg1
                go_wp2_with fail
                refine ⟨by simp, .inl ⟨_, _, rfl, HK.out, ?_⟩⟩
                exact ⟨_, results_tmp rfl _ _ _, rfl, fin.out⟩
end Go.Proofs.Ytcaeechlpadboaa
