/-
  Blanks skipped; tokens read.
-/
import Derived.Test.YtnljdcghaecdaaaGreatDoorRul
namespace Go.Proofs.YtnljdcghaecdaaaGreatDoor
open Go.RowKit Go.Lib Go.Maps
attribute [local go_sem] Oper.semAt_some

def spB (c : Int) : Bool := c == 32
/-- Blanks end there, and no remark begins. -/
structure Skip (s : ByteArray) (a p : Nat) : Prop where
  stop : stop spB s a = p
  le : p ≤ s.size
  ge : a ≤ p
  good : p < s.size → byt s p ≠ 32 ∧ byt s p ≠ 9 ∧ byt s p ≠ 10 ∧ byt s p ≠ 13 ∧ byt s p ≠ 47
theorem no_prefix {s : ByteArray} {p : Nat} (hp : p < s.size) (x : UInt8) (r : List UInt8) (h : byt s p ≠ (x.toNat : Int)) : Lib.hasPrefix (s.extract p s.size).data.toList (x :: r) = false := by
  have e : (s.extract p s.size).data.toList = s[p] :: (s.extract (p + 1) s.size).data.toList := by
    rw [ByteArray.data_extract, ByteArray.data_extract, Array.toList_extract, Array.toList_extract]
    have hl : p < s.data.toList.length := by simpa using hp
    simp only [List.extract_eq_take_drop]
    rw [List.drop_eq_getElem_cons hl]
    have hs : s.size - p = (s.size - (p + 1)) + 1 := by omega
    rw [hs, List.take_succ_cons]
    rfl
  have hb : byt s p = ((s[p]'hp).toNat : Int) := by unfold byt; rw [dif_pos hp]
  rw [e]
  unfold Lib.hasPrefix
  rw [hb] at h
  have hne : x ≠ s[p] := fun e => h (by rw [e])
  rw [List.isPrefixOf_cons_cons, beq_eq_false_iff_ne.2 hne]
  rfl
section
variable {B : Nat} {w0 w : World} {ts : List Thing} {r : Nat} {s : ByteArray} {a : Nat}
set_option maxRecDepth 100000 in
set_option maxHeartbeats 4000000 in
theorem skip_any (p : Nat) (hsk : Hid (Skip s a p)) (hs : s.size ≤ 1000000) (h : Hid (Lie B w0 w (rbx r s a :: ts))) :
    Calls Tryz.prog 93 #[.pointer (some ⟨r, 0, none⟩)] w fun e w' => e = vd ∧ Hid (Lie B w0 w' (rbx r s p :: ts)) := by
  have hap := hsk.out.ge
  have hps := hsk.out.le
  go_enter Tryz.func93, Tryz.ntmps93
  go_wp2_with fail
  go_loopg [] (p - a) (fun g wr => ∃ i : Nat, a ≤ i ∧ i ≤ p ∧ p - i ≤ g ∧ Hid (stop spB s i = p) ∧ Hid (Lie B w0 wr (rbx r s i :: ts)))
  case atStart => exact ⟨a, by omega, hap, by omega, hide hsk.out.stop, h⟩
  case round =>
    obtain ⟨i, hai, hip, hg, HS, HL⟩ := hrel
    obtain ⟨c0, c1, f0, f1⟩ := cell2 (HL.out.get 0 rfl)
    by_cases hlt : i < s.size
    · have hby : byt s i = ((s[i]'hlt).toNat : Int) := by unfold byt; rw [dif_pos hlt]
      cases hf : spB (byt s i) with
      | true =>
        have HST := hide (stop_go (f := spB) hlt hf)
        have h32 : ((s[i]'hlt).toNat : Int) = 32 := by rw [← hby]; simpa [spB] using hf
        have hip2 : i < p := by
          rcases Nat.lt_or_ge i p with h1 | h1
          · exact h1
          · obtain rfl : i = p := by omega
            have := (hsk.out.good hlt).1
            rw [hby] at this
            exact absurd h32 this
        have e32 : (((s[i]'hlt).toNat : Int) == 32) = true := by simp [h32]
        clear hf hby h32
        go_wp2_with fail
        go_quiet (fail)
        have hx0 : (wr.drewN nq).cell? ⟨r, 0, none⟩ = some (.string s) := c0
        have S2 := hide (HL.out.drewN nq)
        generalize wr.drewN nq = w2 at *
        clear c0 c1 f0 f1 hx0
        obtain ⟨d0, d1, g0, g1⟩ := cell2 (S2.out.get 0 rfl)
        go_wp2_with fail
        go_quiet (fail)
        have S3 := hide (S2.out.drewN nq)
        generalize w2.drewN nq = w3 at *
        clear d0 d1 g0 g1
        obtain ⟨d0, d1, g0, g1⟩ := cell2 (S3.out.get 0 rfl)
        have S4 := hide (S3.out.setBox 0 rfl 1 (.int .i64 ((i : Int) + 1)))
        go_wp2_with fail
        go_roundg (p - (i + 1))
        case measure => omega
        case rel => exact ⟨i + 1, by omega, by omega, Nat.le_refl _, hide (by rw [← HST.out]; exact HS.out), S4⟩
      | false =>
        have hst : i = p := by rw [← HS.out]; exact (stop_at hf).symm
        have hgd := hsk.out.good (by rw [← hst]; exact hlt)
        rw [← hst, hby] at hgd
        have HPX := hide (no_prefix hlt 47 [47] (by rw [hby]; exact hgd.2.2.2.2))
        obtain ⟨q1, q2, q3, q4, _⟩ := hgd
        have e1 : (((s[i]'hlt).toNat : Int) == 32) = false := by simp [q1]
        have e2 : (((s[i]'hlt).toNat : Int) == 9) = false := by simp [q2]
        have e3 : (((s[i]'hlt).toNat : Int) == 10) = false := by simp [q3]
        have e4 : (((s[i]'hlt).toNat : Int) == 13) = false := by simp [q4]
        have HST := hide hst
        clear hf hby q1 q2 q3 q4 hst
        go_wp2_with fail
        go_quiet (fail)
        have S2 := hide (HL.out.drewN nq)
        generalize wr.drewN nq = w2 at *
        clear c0 c1 f0 f1
        obtain ⟨d0, d1, g0, g1⟩ := cell2 (S2.out.get 0 rfl)
        go_wp2_with fail
        go_quiet (fail)
        have S3 := hide (S2.out.drewN nq)
        generalize w2.drewN nq = w3 at *
        clear d0 d1 g0 g1
        obtain ⟨d0, d1, g0, g1⟩ := cell2 (S3.out.get 0 rfl)
        have HCP := hide (fun m => Tryz.strings_HasPrefix (s.extract i s.size) ⟨#[47, 47]⟩ (w3.drewN m))
        rw [show (⟨#[47, 47]⟩ : ByteArray).data.toList = [47, 47] from rfl, HPX.out] at HCP
        go_wp2_with fail
        go_quiet ((go_at_call 95; with_reducible exact Calls.quiet_of_same (HCP.out _)))
        have S5 := hide (S3.out.drewN nq)
        generalize w3.drewN nq = w4 at *
        go_wp2_with fail
        first | refine bodyPost_ret (results_none rfl _ _ _) rfl ?_ | go_end0
        exact ⟨rfl, by rw [← HST.out]; exact S5⟩
    · have hst : i = p := by omega
      have HST := hide hst
      have hiz : i = s.size := by omega
      subst hiz
      clear hst
      go_wp2_with fail
      go_quiet (fail)
      have S2 := hide (HL.out.drewN nq)
      generalize wr.drewN nq = w2 at *
      clear c0 c1 f0 f1
      go_wp2_with fail
      first | refine bodyPost_ret (results_none rfl _ _ _) rfl ?_ | go_end0
      exact ⟨rfl, by rw [← HST.out]; exact S2⟩
end
end Go.Proofs.YtnljdcghaecdaaaGreatDoor
