/-
  A table of pairs: looking a key up.
-/
import Derived.Test.YtcaeechlpadboaaCmp
namespace Go.Proofs.Ytcaeechlpadboaa.MP
open Go.RowKit Go.Lib

/-- A value. -/
abbrev V : Type := Int × (Option Addr × Nat × Nat)
abbrev v1 (v : V) : Value := .int .i64 v.1
abbrev v2 (v : V) : Value := .slice v.2.1 v.2.2.1 v.2.2.2
abbrev vv (v : V) : Value := .agg #[v1 v, v2 v]
abbrev Ent : Type := ByteArray × V
abbrev cl (x : Ent) : List Value := [.string x.1, v1 x.2, v2 x.2]
theorem cl_len (x : Ent) : (cl x).length = 3 := rfl
abbrev agg (x : Ent) : Value := .agg #[.string x.1, v1 x.2, v2 x.2]
abbrev cells (xs : List Ent) : List Value := xs.flatMap cl
theorem cells_length (xs : List Ent) : (cells xs).length = xs.length * 3 := flat_length cl_len xs
theorem cells_one (xs : List Ent) : ∀ u ∈ cells xs, u.oneCell' = true := by
  intro u hu
  obtain ⟨x, _, h⟩ := List.mem_flatMap.1 hu
  simp only [cl, List.mem_cons, List.not_mem_nil, or_false] at h
  rcases h with rfl | rfl | rfl <;> rfl
theorem cell_at {w : World} {A : Option Addr} {c : Nat} (xs : List Ent) (h : Rd w 3 (.slice A xs.length c) xs.length (cells xs)) (h0 : 0 < xs.length) :
    ∃ b o, A = some ⟨b, o, none⟩ ∧ b < w.heap.size ∧ ∀ i (hi : i < xs.length), w.cell? ⟨b, o + i * 3, none⟩ = some (.string (xs[i]).1) ∧ w.cell? ⟨b, o + i * 3 + 1, none⟩ = some (v1 (xs[i]).2) ∧ w.cell? ⟨b, o + i * 3 + 2, none⟩ = some (v2 (xs[i]).2) := by
  obtain ⟨b, o, hA, hb, hc⟩ := h.cells h0
  refine ⟨b, o, hA, hb, fun i hi => ⟨?_, ?_, ?_⟩⟩
  · have := hc (i * 3 + 0) (.string (xs[i]).1) (by rw [flat_at cl_len xs i 0 hi (by omega)]; rfl)
    exact this
  · have := hc (i * 3 + 1) (v1 (xs[i]).2) (by rw [flat_at cl_len xs i 1 hi (by omega)]; rfl)
    rw [← Nat.add_assoc] at this
    exact this
  · have := hc (i * 3 + 2) (v2 (xs[i]).2) (by rw [flat_at cl_len xs i 2 hi (by omega)]; rfl)
    rw [← Nat.add_assoc] at this
    exact this

set_option maxRecDepth 100000 in
theorem closure_any (x : Ent) (k : ByteArray) (w : World) : Calls Try.prog 79 #[agg x, .string k] w (Same (.int .i64 (kc x.1 k)) w) := by
  go_enter Try.func79, Try.ntmps79
  go_wp2_with fail
  refine (compare_any x.1 k _).mono ?_
  rintro e w1 ⟨rfl, rfl⟩
  go_wp2_with fail
  go_ret
  exact ⟨rfl, (Turn.refl _ w).alloc _⟩

set_option maxRecDepth 100000 in
set_option maxHeartbeats 4000000 in
theorem search_any (xs : List Ent) (hs : Srt xs) (k : ByteArray) (A : Option Addr) (c : Nat) (hn : xs.length ≤ 1000000) (w : World) (h : Rd w 3 (.slice A xs.length c) xs.length (cells xs)) :
    Calls Try.prog 78 #[.slice A xs.length c, .string k, .func (.func 79) #[] #[]] w (Same (.tuple #[.int .i64 (pos xs k : Nat), .bool (has xs k)]) w) := by
  have H := hide h
  have HS := hide hs
  clear h hs
  obtain ⟨n, hnn⟩ : ∃ n, n = xs.length := ⟨_, rfl⟩
  have HN := hide hnn
  rw [← hnn] at hn ⊢
  clear hnn
  go_enter Try.func78, Try.ntmps78
  go_wp2_with fail
  go_loopg [9, 10] n (fun kx s9 s10 wr => ∃ lo hi : Nat, s9 = .int .i64 lo ∧ s10 = .int .i64 hi ∧ lo ≤ hi ∧ hi ≤ n ∧ hi - lo ≤ kx ∧ Hid (Turn (fun _ => False) w wr) ∧
    Hid ((∀ t (ht : t < xs.length), t < lo → kc (xs[t]).1 k < 0) ∧ (∀ t (ht : t < xs.length), hi ≤ t → 0 ≤ kc (xs[t]).1 k)))
  case atStart => exact ⟨0, n, rfl, rfl, Nat.zero_le _, Nat.le_refl _, by omega, hide (Turn.refl _ w), hide ⟨fun t _ ht => absurd ht (Nat.not_lt_zero _), fun t h1 h2 => by have := HN.out; omega⟩⟩
  case round =>
    obtain ⟨lo, hi, rfl, rfl, hlh, hin, hg, T, I⟩ := hrel
    by_cases hlt : lo < hi
    · obtain ⟨b, o, rfl, hb, hc⟩ := cell_at xs H.out (by have := HN.out; omega)
      have hm : (lo + hi) / 2 < xs.length := by have := HN.out; omega
      obtain ⟨k0, k1, k2⟩ := hc _ hm
      have T1 := T.out
      have d0 := (T1.cell (p := ⟨b, o + (lo + hi) / 2 * 3, none⟩) hb (fun h => h)).trans k0
      have d1 := (T1.cell (p := ⟨b, o + (lo + hi) / 2 * 3 + 1, none⟩) hb (fun h => h)).trans k1
      have d2 := (T1.cell (p := ⟨b, o + (lo + hi) / 2 * 3 + 2, none⟩) hb (fun h => h)).trans k2
      obtain ⟨y, hy⟩ : ∃ y, y = xs[(lo + hi) / 2] := ⟨_, rfl⟩
      rw [← hy] at d0 d1 d2
      have HY := hide hy
      clear hc k0 k1 k2 T1 hy
      have cc : Hid (∀ W, Calls Try.prog 79 #[agg y, .string k] W (Same (.int .i64 (kc y.1 k)) W)) := hide (fun W => closure_any y k W)
      by_cases hyx : kc y.1 k < 0
      · go_wp2_with fail
        refine (cc.out wr).mono ?_
        rintro e w1 ⟨rfl, t1⟩
        have T2 := hide (T.out.trans t1)
        clear t1
        go_wp2_with fail
        go_roundg (hi - ((lo + hi) / 2 + 1))
        case measure => omega
        case rel =>
          refine ⟨(lo + hi) / 2 + 1, hi, by rw [show ((lo : Int) + (hi : Int)) / 2 + 1 = (((lo + hi) / 2 + 1 : Nat) : Int) by omega], rfl, by omega, hin, Nat.le_refl _, T2, hide ⟨fun t ht h1 => ?_, I.out.2⟩⟩
          have h2 : kc (xs[(lo + hi) / 2]).1 k < 0 := by rw [← HY.out]; exact hyx
          exact (pos_ahead xs k HS.out t ht).1 (by have := (pos_ahead xs k HS.out _ hm).2 h2; omega)
      · go_wp2_with fail
        refine (cc.out wr).mono ?_
        rintro e w1 ⟨rfl, t1⟩
        have T2 := hide (T.out.trans t1)
        clear t1
        go_wp2_with fail
        go_roundg ((lo + hi) / 2 - lo)
        case measure => omega
        case rel =>
          refine ⟨lo, (lo + hi) / 2, rfl, by rw [show ((lo : Int) + (hi : Int)) / 2 = (((lo + hi) / 2 : Nat) : Int) by omega], by omega, by omega, Nat.le_refl _, T2, hide ⟨I.out.1, fun t ht h1 => Int.not_lt.1 fun h3 => ?_⟩⟩
          have h2 : ¬ kc (xs[(lo + hi) / 2]).1 k < 0 := by rw [← HY.out]; omega
          exact h2 ((pos_ahead xs k HS.out _ hm).1 (by have := (pos_ahead xs k HS.out _ ht).2 h3; omega))
    · obtain rfl : hi = lo := by omega
      have hp := pos_is xs k HS.out hi (by have := HN.out; omega) I.out.1 (fun t ht h => Int.not_lt.2 (I.out.2 t ht h))
      have HP := hide hp
      by_cases hlt2 : hi < n
      · obtain ⟨b, o, rfl, hb, hc⟩ := cell_at xs H.out (by have := HN.out; omega)
        have hm : hi < xs.length := by have := HN.out; omega
        obtain ⟨k0, k1, k2⟩ := hc _ hm
        have T1 := T.out
        have d0 := (T1.cell (p := ⟨b, o + hi * 3, none⟩) hb (fun h => h)).trans k0
        have d1 := (T1.cell (p := ⟨b, o + hi * 3 + 1, none⟩) hb (fun h => h)).trans k1
        have d2 := (T1.cell (p := ⟨b, o + hi * 3 + 2, none⟩) hb (fun h => h)).trans k2
        have HH : Hid (has xs k = decide (kc (xs[hi]).1 k = 0)) := hide (by
          have h1 := has_iff xs k HS.out (by rw [hp]; exact hm)
          simp only [hp] at h1
          exact h1)
        obtain ⟨y, hy⟩ : ∃ y, y = xs[hi] := ⟨_, rfl⟩
        rw [← hy] at d0 d1 d2 HH
        clear hc k0 k1 k2 T1 hy hp
        have cc : Hid (∀ W, Calls Try.prog 79 #[agg y, .string k] W (Same (.int .i64 (kc y.1 k)) W)) := hide (fun W => closure_any y k W)
        go_wp2_with fail
        refine (cc.out wr).mono ?_
        rintro e w1 ⟨rfl, t1⟩
        have T2 := hide (T.out.trans t1)
        clear t1
        go_wp2_with fail
        go_ret2
        exact ⟨by rw [HP.out, HH.out]; rfl, T2.out⟩
      · have HH : Hid (has xs k = false) := hide (has_end xs k HS.out (by rw [hp]; have := HN.out; omega))
        clear hp
        go_wp2_with fail
        go_ret2
        exact ⟨by rw [HP.out, HH.out]; rfl, T.out⟩
end Go.Proofs.Ytcaeechlpadboaa.MP
