/-
  Bytes of a text that are of a kind, taken one behind another; names.
-/
import Derived.Test.YtnljdcghaecdaaaGreatDoorTok
namespace Go.Proofs.YtnljdcghaecdaaaGreatDoor
open Go.RowKit Go.Lib
attribute [local go_sem] Oper.semAt_some

abbrev rbx (r : Nat) (s : ByteArray) (a : Nat) : Thing := box r (.cells #[.string s, .int .i64 a] 129 (0, 0))
theorem cell2 {w : World} {b : Nat} {u v : Value} {t : TypeId} (h : w.heap[b]? = some (.cells #[u, v] t (0, 0))) : w.cell? ⟨b, 0, none⟩ = some u ∧ w.cell? ⟨b, 1, none⟩ = some v ∧ w.frozen? ⟨b, 0, none⟩ = false ∧ w.frozen? ⟨b, 1, none⟩ = false := by
  simp [World.cell?, World.frozen?, h]
/-- Where bytes of a kind end. -/
def stop (f : Int → Bool) (s : ByteArray) (a : Nat) : Nat := if a < s.size then (if f (byt s a) then stop f s (a + 1) else a) else a
termination_by s.size - a
theorem stop_go {f : Int → Bool} {s : ByteArray} {a : Nat} (h : a < s.size) (hf : f (byt s a) = true) : stop f s a = stop f s (a + 1) := by rw [stop, if_pos h, if_pos hf]
theorem stop_at {f : Int → Bool} {s : ByteArray} {a : Nat} (hf : f (byt s a) = false) : stop f s a = a := by
  rw [stop]
  split
  · rw [hf]; rfl
  · rfl
theorem stop_end {f : Int → Bool} {s : ByteArray} {a : Nat} (h : ¬ a < s.size) : stop f s a = a := by rw [stop, if_neg h]
section
variable {B : Nat} {w0 w : World} {ts : List Thing} {r : Nat} {s : ByteArray} {a : Nat}
set_option maxRecDepth 100000 in
set_option maxHeartbeats 4000000 in
theorem run_inner (ha : a ≤ s.size) (hs : s.size ≤ 1000000) (h : Lie B w0 w (rbx r s a :: ts)) :
    Calls Tryz.prog 63 #[.pointer (some ⟨r, 0, none⟩), .func (.func 64) #[] #[]] w fun e w' => e = .returned (.string (s.extract a (stop innerB s a))) ∧ Hid (Lie B w0 w' (rbx r s (stop innerB s a) :: ts)) := by
  have H := hide h
  obtain ⟨c0, c1, f0, f1⟩ := cell2 (h.get 0 rfl)
  clear h
  go_enter Tryz.func63, Tryz.ntmps63
  go_wp2_with fail
  clear c0 c1 f0 f1
  go_loopg [] (s.size - a) (fun g wr => ∃ i : Nat, a ≤ i ∧ i ≤ s.size ∧ s.size - i ≤ g ∧ Hid (stop innerB s i = stop innerB s a) ∧ Hid (Lie B w0 wr (rbx r s i :: ts)))
  case atStart => exact ⟨a, by omega, ha, by omega, hide rfl, H⟩
  case round =>
    clear H
    obtain ⟨i, hai, his, hg, HS, HL⟩ := hrel
    obtain ⟨c0, c1, f0, f1⟩ := cell2 (HL.out.get 0 rfl)
    by_cases hlt : i < s.size
    · have hby : byt s i = ((s[i]'hlt).toNat : Int) := by unfold byt; rw [dif_pos hlt]
      have hcl := fun m => inner_any (byt s i) (wr.drewN m)
      rw [hby] at hcl
      cases hf : innerB (byt s i) with
      | true =>
        have hf2 := hf
        rw [hby] at hf2
        rw [hf2] at hcl
        have HC := hide hcl
        have HST := hide (stop_go (f := innerB) hlt hf)
        clear hcl hf hf2 hby
        go_wp2_with fail
        go_quiet ((go_at_call 64; with_reducible exact Calls.quiet_of_same (HC.out _)))
        have S2 := hide (HL.out.drewN nq)
        obtain ⟨d0, d1, g0, g1⟩ := cell2 (S2.out.get 0 rfl)
        have S3 := hide (S2.out.setBox 0 rfl 1 (.int .i64 ((i : Int) + 1)))
        generalize wr.drewN nq = w2 at *
        clear c0 c1 f0 f1 HC S2
        go_wp2_with fail
        go_roundg (s.size - (i + 1))
        case measure => omega
        case rel => exact ⟨i + 1, by omega, by omega, Nat.le_refl _, hide (by rw [← HST.out]; exact HS.out), S3⟩
      | false =>
        have hf2 := hf
        rw [hby] at hf2
        rw [hf2] at hcl
        have HC := hide hcl
        have HST : Hid (stop innerB s a = i) := hide (by rw [← HS.out]; exact stop_at hf)
        clear hcl hf hf2 hby
        go_wp2_with fail
        go_quiet ((go_at_call 64; with_reducible exact Calls.quiet_of_same (HC.out _)))
        have S2 := hide (HL.out.drewN nq)
        obtain ⟨d0, d1, g0, g1⟩ := cell2 (S2.out.get 0 rfl)
        generalize wr.drewN nq = w2 at *
        clear c0 c1 f0 f1 HC
        go_wp2_with fail
        go_quiet (fail)
        go_wp2_with fail
        go_ret
        exact ⟨by rw [HST.out]; rfl, by rw [HST.out]; exact hide (S2.out.drewN _)⟩
    · obtain rfl : i = s.size := by omega
      have HST : Hid (stop innerB s a = s.size) := hide (by rw [← HS.out]; exact stop_end hlt)
      go_wp2_with fail
      go_quiet (fail)
      have S2 := hide (HL.out.drewN nq)
      obtain ⟨d0, d1, g0, g1⟩ := cell2 (S2.out.get 0 rfl)
      generalize wr.drewN nq = w2 at *
      clear c0 c1 f0 f1
      go_wp2_with fail
      go_quiet (fail)
      go_wp2_with fail
      go_ret
      exact ⟨by rw [HST.out]; rfl, by rw [HST.out]; exact hide (S2.out.drewN _)⟩
set_option maxRecDepth 100000 in
set_option maxHeartbeats 4000000 in
theorem run_digit (ha : a ≤ s.size) (hs : s.size ≤ 1000000) (h : Lie B w0 w (rbx r s a :: ts)) :
    Calls Tryz.prog 63 #[.pointer (some ⟨r, 0, none⟩), .func (.func 92) #[] #[]] w fun e w' => e = .returned (.string (s.extract a (stop digitB s a))) ∧ Hid (Lie B w0 w' (rbx r s (stop digitB s a) :: ts)) := by
  have H := hide h
  obtain ⟨c0, c1, f0, f1⟩ := cell2 (h.get 0 rfl)
  clear h
  go_enter Tryz.func63, Tryz.ntmps63
  go_wp2_with fail
  clear c0 c1 f0 f1
  go_loopg [] (s.size - a) (fun g wr => ∃ i : Nat, a ≤ i ∧ i ≤ s.size ∧ s.size - i ≤ g ∧ Hid (stop digitB s i = stop digitB s a) ∧ Hid (Lie B w0 wr (rbx r s i :: ts)))
  case atStart => exact ⟨a, by omega, ha, by omega, hide rfl, H⟩
  case round =>
    clear H
    obtain ⟨i, hai, his, hg, HS, HL⟩ := hrel
    obtain ⟨c0, c1, f0, f1⟩ := cell2 (HL.out.get 0 rfl)
    by_cases hlt : i < s.size
    · have hby : byt s i = ((s[i]'hlt).toNat : Int) := by unfold byt; rw [dif_pos hlt]
      have hcl := fun m => digit_any (byt s i) (wr.drewN m)
      rw [hby] at hcl
      cases hf : digitB (byt s i) with
      | true =>
        have hf2 := hf
        rw [hby] at hf2
        rw [hf2] at hcl
        have HC := hide hcl
        have HST := hide (stop_go (f := digitB) hlt hf)
        clear hcl hf hf2 hby
        go_wp2_with fail
        go_quiet ((go_at_call 92; with_reducible exact Calls.quiet_of_same (HC.out _)))
        have S2 := hide (HL.out.drewN nq)
        obtain ⟨d0, d1, g0, g1⟩ := cell2 (S2.out.get 0 rfl)
        have S3 := hide (S2.out.setBox 0 rfl 1 (.int .i64 ((i : Int) + 1)))
        generalize wr.drewN nq = w2 at *
        clear c0 c1 f0 f1 HC S2
        go_wp2_with fail
        go_roundg (s.size - (i + 1))
        case measure => omega
        case rel => exact ⟨i + 1, by omega, by omega, Nat.le_refl _, hide (by rw [← HST.out]; exact HS.out), S3⟩
      | false =>
        have hf2 := hf
        rw [hby] at hf2
        rw [hf2] at hcl
        have HC := hide hcl
        have HST : Hid (stop digitB s a = i) := hide (by rw [← HS.out]; exact stop_at hf)
        clear hcl hf hf2 hby
        go_wp2_with fail
        go_quiet ((go_at_call 92; with_reducible exact Calls.quiet_of_same (HC.out _)))
        have S2 := hide (HL.out.drewN nq)
        obtain ⟨d0, d1, g0, g1⟩ := cell2 (S2.out.get 0 rfl)
        generalize wr.drewN nq = w2 at *
        clear c0 c1 f0 f1 HC
        go_wp2_with fail
        go_quiet (fail)
        go_wp2_with fail
        go_ret
        exact ⟨by rw [HST.out]; rfl, by rw [HST.out]; exact hide (S2.out.drewN _)⟩
    · obtain rfl : i = s.size := by omega
      have HST : Hid (stop digitB s a = s.size) := hide (by rw [← HS.out]; exact stop_end hlt)
      go_wp2_with fail
      go_quiet (fail)
      have S2 := hide (HL.out.drewN nq)
      obtain ⟨d0, d1, g0, g1⟩ := cell2 (S2.out.get 0 rfl)
      generalize wr.drewN nq = w2 at *
      clear c0 c1 f0 f1
      go_wp2_with fail
      go_quiet (fail)
      go_wp2_with fail
      go_ret
      exact ⟨by rw [HST.out]; rfl, by rw [HST.out]; exact hide (S2.out.drewN _)⟩
end
def nameB (s : ByteArray) : Bool := decide (1 ≤ s.size) && decide (s.size ≤ 32) && letterB (byt s 0) && !among keywords s && decide (s.extract 0 (stop innerB s 0) = s)
set_option maxRecDepth 100000 in
set_option maxHeartbeats 4000000 in
theorem name_any (s : ByteArray) (w : World) (hk : Kw w) : Calls Tryz.prog 32 #[.string s] w fun e w' => e = .returned (.bool (nameB s)) ∧ Turn (fun _ => False) w w' := by
  by_cases h1 : 1 ≤ s.size
  · by_cases h32 : s.size ≤ 32
    · have hby : byt s 0 = ((s[0]'(by omega)).toNat : Int) := by unfold byt; rw [dif_pos (by omega)]
      have hcl := letter_any (byt s 0) w
      rw [hby] at hcl
      cases hl : letterB (byt s 0) with
      | false =>
        have HF : Hid (nameB s = false) := hide (by unfold nameB; rw [hl]; simp)
        rw [hby] at hl
        rw [hl] at hcl
        have HC := hide hcl
        clear hcl hl hby hk
        go_enter Tryz.func32, Tryz.ntmps32
        go_wp2_with fail
        refine HC.out.mono ?_
        rintro e w1 ⟨rfl, rfl⟩
        go_wp2_with fail
        go_ret
        exact ⟨by rw [HF.out]; rfl, Turn.refl _ _⟩
      | true =>
        have hl2 := hl
        rw [hby] at hl2
        rw [hl2] at hcl
        have HC := hide hcl
        have HK := hide (keyword_any s w hk)
        cases hkw : among keywords s with
        | true =>
          have HF : Hid (nameB s = false) := hide (by unfold nameB; rw [hkw]; simp)
          rw [hkw] at HK
          clear hcl hl hl2 hby hk hkw
          go_enter Tryz.func32, Tryz.ntmps32
          go_wp2_with fail
          refine HC.out.mono ?_
          rintro e w1 ⟨rfl, rfl⟩
          go_wp2_with fail
          refine HK.out.mono ?_
          rintro e w1 ⟨rfl, rfl⟩
          go_wp2_with fail
          go_ret
          exact ⟨by rw [HF.out]; rfl, Turn.refl _ _⟩
        | false =>
          have HF : Hid (nameB s = decide (s.extract 0 (stop innerB s 0) = s)) := hide (by unfold nameB; rw [hkw, hl]; simp [h1, h32])
          rw [hkw] at HK
          obtain ⟨B, hB⟩ : ∃ B, B = w.heap.size := ⟨_, rfl⟩
          have HB := hide hB
          have S1 : Hid (Lie w.heap.size w (w.alloc (.cells #[.string s, .int .i64 0] 129)) [rbx B s 0]) := hide (by rw [hB]; exact (Lie.start w).alloc _)
          have HR := hide (run_inner (r := B) (s := s) (a := 0) (Nat.zero_le _) (by omega) S1.out)
          clear hcl hl hl2 hby hk hkw hB
          go_enter Tryz.func32, Tryz.ntmps32
          go_wp2_with fail
          refine HC.out.mono ?_
          rintro e w1 ⟨rfl, rfl⟩
          go_wp2_with fail
          refine HK.out.mono ?_
          rintro e w1 ⟨rfl, rfl⟩
          go_wp2_with fail
          rw [← HB.out]
          refine HR.out.mono ?_
          rintro e w2 ⟨rfl, S2⟩
          have he := str_eq (s.extract 0 (stop innerB s 0)) s
          generalize s.extract 0 (stop innerB s 0) = sx at *
          go_wp2_with fail
          go_ret
          refine ⟨by rw [HF.out]; simp, ?_⟩
          exact Turn.of_below S2.out.below
    · have HF : Hid (nameB s = false) := hide (by unfold nameB; simp [h32])
      clear hk
      go_enter Tryz.func32, Tryz.ntmps32
      go_wp2_with fail
      go_ret
      exact ⟨by rw [HF.out]; rfl, Turn.refl _ _⟩
  · have HF : Hid (nameB s = false) := hide (by unfold nameB; simp [h1])
    clear hk
    go_enter Tryz.func32, Tryz.ntmps32
    go_wp2_with fail
    go_ret
    exact ⟨by rw [HF.out]; rfl, Turn.refl _ _⟩
end Go.Proofs.YtnljdcghaecdaaaGreatDoor
