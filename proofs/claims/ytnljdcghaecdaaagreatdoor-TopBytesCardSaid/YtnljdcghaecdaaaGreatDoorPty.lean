/-
  A type read; a field.
-/
import Derived.Test.YtnljdcghaecdaaaGreatDoorOne
namespace Go.Proofs.YtnljdcghaecdaaaGreatDoor
open Go.RowKit Go.Lib Go.Maps
attribute [local go_sem] Oper.semAt_some

set_option maxRecDepth 100000 in
theorem end_none (w : World) : Calls Tryz.prog 72 #[.string ⟨#[110, 111, 110, 101]⟩] w fun e w' => e = .returned (.int .u8 1) ∧ w' = w := by
  go_enter Tryz.func72, Tryz.ntmps72
  go_wp2_with fail
  go_ret
  exact ⟨rfl, rfl⟩
set_option maxRecDepth 100000 in
theorem end_int (w : World) : Calls Tryz.prog 72 #[.string ⟨#[105, 110, 116]⟩] w fun e w' => e = .returned (.int .u8 3) ∧ w' = w := by
  go_enter Tryz.func72, Tryz.ntmps72
  go_wp2_with fail
  go_ret
  exact ⟨rfl, rfl⟩
set_option maxRecDepth 100000 in
theorem end_text (w : World) : Calls Tryz.prog 72 #[.string ⟨#[116, 101, 120, 116]⟩] w fun e w' => e = .returned (.int .u8 4) ∧ w' = w := by
  go_enter Tryz.func72, Tryz.ntmps72
  go_wp2_with fail
  go_ret
  exact ⟨rfl, rfl⟩
theorem lie_newrow {B : Nat} {w0 w w2 : World} {ts : List Thing} {e : TypeId} {m n : Nat} {v' : Value} {xs : List Value} (h : Lie B w0 w ts) (ho : w2.ownsRow B e m v' n xs) (t : Turn (fun k => (Value.slice none 0 0).ownBlock = some k) w w2) (hn : Newer w (.slice none 0 0) v') : Lie B w0 w2 (row B e m v' n xs :: ts) :=
  h.push (t.mono (fun k _ hk => by cases hk)) ho (fun k hk => by
    rcases hn k hk with h | h
    · cases h
    · exact h)
section
variable {W w : World} {r : Nat} {t : TokD} {l : List TokD} {ts : List Thing}
abbrev trow (B : Nat) (v : Value) (n : Int) : Thing := row B 44 2 v 1 [.int .u8 n, .string ⟨#[]⟩]
set_option maxRecDepth 100000 in
set_option maxHeartbeats 8000000 in
theorem psorts_any (n : Int) (hn : n ≠ 0) (hend : Hid (∀ w, Calls Tryz.prog 72 #[.string t.text] w fun e w' => e = .returned (.int .u8 n) ∧ w' = w)) (hl : Hid (t.text ≠ ⟨#[108, 105, 115, 116]⟩)) (ho : Hid (t.text ≠ ⟨#[111, 112, 116]⟩)) (hk : Hid (t.kind = 1)) (h : Hid (At W r (t :: l) w ts)) :
    Calls Tryz.prog 71 #[.pointer (some ⟨r, 0, none⟩)] w fun e w' => ∃ v, e = .returned v ∧ Hid (At W r l w' (trow W.heap.size v n :: ts)) := by
  obtain ⟨i0, hi0, hz0, hz1, hz2⟩ := info_parts info44
  have C1 := hide (take_no _ hl.out (by rw [hk.out]; decide) h)
  have C2 := hide (take_no _ ho.out (by rw [hk.out]; decide) h)
  obtain ⟨b, o, c, hc, hb, HR, HL, k0, k1, k2, k3⟩ := at_open h.out
  obtain ⟨c0, c1, f0, f1⟩ := cell2 (HL.out.get 0 rfl)
  have hkk : (t.kind == 1) = true := by simp [hk.out]
  have hnn : (n != 0) = true := by simp [hn]
  have hgt : decide ((0 : Int) < ((l.length + 1 : Nat) : Int)) = true := by simp
  clear h hk hn hl ho
  go_enter Tryz.func71, Tryz.ntmps71
  go_wp2_with fail
  go_loopg [3] 0 (fun g v wr => v = .slice none 0 0 ∧ wr = w)
  case atStart => exact ⟨rfl, rfl⟩
  case round =>
  obtain ⟨rfl, rfl⟩ := hrel
  go_wp2_with fail
  refine C1.out.mono ?_
  rintro e w1 ⟨rfl, rfl⟩
  go_wp2_with fail
  refine C2.out.mono ?_
  rintro e w1 ⟨rfl, rfl⟩
  go_wp2_with fail
  refine (hend.out _).mono ?_
  rintro e w1 ⟨rfl, rfl⟩
  go_wp2_with fail
  refine (hend.out _).mono ?_
  rintro e w1 ⟨rfl, rfl⟩
  have hbb := HL.out.base_le
  go_upto_region 9 with (at_builtin; refine wpList_append1 rfl (.tmp 50) (.tmp 60) 27 rfl W.heap.size 44 i0 _ 2 24 Tryz.underlying27 hi0 hz0 hz1 hz2 rfl (by decide) (.slice none 0 0) 0 [] (by simp [Act.eval]) (World.ownsRow_nil _ _ _ _) [.int .u8 n, .string ⟨#[]⟩] (by simp [Act.eval]) rfl (by intro u hu; simp at hu; rcases hu with rfl | rfl <;> rfl) (by omega) (by omega) hbb ?_; intro v' w2 ho t2 hnw; have S2 := hide (lie_newrow HL.out ho t2 hnw); clear ho t2 hnw)
  have A2 : Hid (At W r (t :: l) w2 (trow W.heap.size v' n :: ts)) := hide ⟨_, _, hc, HR.out, S2.out.swap⟩
  clear S2 HL HR hb hc k0 k1 k2 k3 c0 c1 f0 f1 C1 C2 hend hgt hkk hnn hbb
  obtain ⟨b, o, c, hc, hb, HR, HL, k0, k1, k2, k3⟩ := at_open A2.out
  obtain ⟨c0, c1, f0, f1⟩ := cell2 (HL.out.get 0 rfl)
  have HR3 := tok_tail HR.out hc
  clear A2 k0 k1 k2 k3
  by_cases h1 : c = 1
  · rw [if_pos h1] at HR3
    have HR2 := hide HR3
    clear HR3
    subst h1
    obtain rfl : l = [] := List.length_eq_zero_iff.1 (by omega)
    have S4 := hide (HL.out.setBox 0 rfl 0 (.slice (some ⟨b, o, none⟩) 0 0))
    go_wp2_with fail
    go_ret
    exact ⟨_, rfl, hide ⟨_, _, by simp, HR2.out, S4.out⟩⟩
  · rw [if_neg h1] at HR3
    have HR2 := hide HR3
    clear HR3
    skip
    have S4 := hide (HL.out.setBox 0 rfl 0 (.slice (some ⟨b, o + 4, none⟩) l.length (c - 1)))
    go_wp2_with fail
    go_ret
    exact ⟨_, rfl, hide ⟨_, _, by omega, HR2.out, S4.out⟩⟩
end
end Go.Proofs.YtnljdcghaecdaaaGreatDoor
