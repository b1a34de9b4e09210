/-
  Numbers of a fixed width put behind bytes.
-/
import Derived.Test.YtnljdcghaecdaaaGreatDoorStr
namespace Go.Proofs.YtnljdcghaecdaaaGreatDoor
open Go.RowKit Go.Lib
attribute [local go_sem] Oper.semAt_some

/-- Byte number k. -/
def nth8 (x k : Nat) : Int := (x : Int) / 2 ^ (8 * k) % 256
/-- The highest so many of n bytes, the highest one first. -/
def bigB (x n : Nat) : Nat → List Int
  | 0 => []
  | j + 1 => bigB x n j ++ [nth8 x (n - 1 - j)]
def litB (x : Nat) : Nat → List Int
  | 0 => []
  | j + 1 => litB x j ++ [nth8 x j]
theorem bigB_len (x n : Nat) : ∀ j, (bigB x n j).length = j
  | 0 => rfl
  | j + 1 => by rw [bigB, List.length_append, bigB_len x n j]; rfl
theorem litB_len (x : Nat) : ∀ j, (litB x j).length = j
  | 0 => rfl
  | j + 1 => by rw [litB, List.length_append, litB_len x j]; rfl
section
variable {B : Nat} {w0 w : World} {ts : List Thing} {v : Value} {xs : List Int}
set_option maxRecDepth 100000 in
set_option maxHeartbeats 2000000 in
theorem putbig_any (x n : Nat) (_hx : x < 18446744073709551616) (hn8 : n ≤ 8) (hn : xs.length ≤ 900000) (h : Lie B w0 w (brow B v xs :: ts)) :
    Calls Tryz.prog 19 #[v, .int .u64 x, .int .i64 n] w fun e w' => ∃ v', e = .returned v' ∧ Hid (Lie B w0 w' (brow B v' (xs ++ bigB x n n) :: ts)) := by
  obtain ⟨i0, hi0, hz0, hz1, hz2⟩ := info_parts info5
  have H := hide h
  clear h
  go_enter Tryz.func19, Tryz.ntmps19
  go_wp2_with fail
  go_loopw [0, 7] (fun s0 s7 wr => ∃ j : Nat, j ≤ n ∧ s7 = .int .i64 ((n : Int) - 1 - j) ∧ Hid (Lie B w0 wr (brow B s0 (xs ++ bigB x n j) :: ts))) (fun _ s7 _ => (intOf s7 + 1).toNat)
  case atStart => exact ⟨0, by omega, by simp, hide (by rw [bigB, List.append_nil]; exact H.out)⟩
  case round =>
    obtain ⟨j, hj, rfl, HL⟩ := hrel
    obtain ⟨A', c', rfl⟩ := (Rd.of_own (HL.out.get 0 rfl)).shape
    have hb := HL.out.base_le
    have OWN : Hid (wr.ownsRow B 5 1 (.slice A' (xs ++ bigB x n j).length c') (xs ++ bigB x n j).length ((xs ++ bigB x n j).flatMap bc)) := hide (HL.out.get 0 rfl)
    have hlen : (xs ++ bigB x n j).length ≤ 900008 := by rw [List.length_append, bigB_len]; omega
    by_cases hlt : j < n
    · obtain ⟨k, hk⟩ : ∃ k : Nat, k = n - 1 - j := ⟨_, rfl⟩
      have hki : (n : Int) - 1 - j = (k : Int) := by omega
      have HB : Hid (xs ++ bigB x n (j + 1) = (xs ++ bigB x n j) ++ [nth8 x k]) := hide (by rw [bigB, hk, List.append_assoc])
      rw [hki]
      generalize xs ++ bigB x n j = zs at *
      have HK := hide hk
      clear hk hki
      have hk8 : k < 8 := by have := HK.out; omega
      go_wp2_with (at_builtin; refine wpList_append1 rfl (.tmp 14) (.tmp 20) 52 rfl B 5 i0 _ 1 1 Tryz.underlying52 hi0 hz0 hz1 hz2 rfl (by decide) (.slice A' zs.length c') zs.length _ (by simp [Act.eval]) OWN.out [.int .u8 (nth8 x k)] (by simp [Act.eval]) rfl (by intro u hu; simp at hu; subst hu; rfl) (by omega) (by omega) hb ?_; intro v' w2 ho t2 hnw; have L3 := hide (Lie.moreB HL.out ho t2 hnw); clear ho t2 hnw)
      go_roundw
      case rel => exact ⟨j + 1, by omega, by have := HK.out; go_num, hide (by rw [HB.out]; exact L3.out)⟩
      case measure => simp [intOf]
    · obtain rfl : j = n := by omega
      go_wp2_with fail
      go_ret
      exact ⟨_, rfl, HL⟩
set_option maxRecDepth 100000 in
set_option maxHeartbeats 2000000 in
theorem putlittle_any (x n : Nat) (_hx : x < 18446744073709551616) (hn8 : n ≤ 8) (hn : xs.length ≤ 900000) (h : Lie B w0 w (brow B v xs :: ts)) :
    Calls Tryz.prog 20 #[v, .int .u64 x, .int .i64 n] w fun e w' => ∃ v', e = .returned v' ∧ Hid (Lie B w0 w' (brow B v' (xs ++ litB x n) :: ts)) := by
  obtain ⟨i0, hi0, hz0, hz1, hz2⟩ := info_parts info5
  have H := hide h
  clear h
  go_enter Tryz.func20, Tryz.ntmps20
  go_wp2_with fail
  go_loopw [0, 7, 9] (fun s0 s7 s9 wr => ∃ j : Nat, j ≤ n ∧ s9 = .int .i64 j ∧ Hid (Lie B w0 wr (brow B s0 (xs ++ litB x j) :: ts))) (fun _ _ s9 _ => n - (intOf s9).toNat)
  case atStart => exact ⟨0, by omega, rfl, hide (by rw [litB, List.append_nil]; exact H.out)⟩
  case round =>
    obtain ⟨k, hj, rfl, HL⟩ := hrel
    obtain ⟨A', c', rfl⟩ := (Rd.of_own (HL.out.get 0 rfl)).shape
    have hb := HL.out.base_le
    have OWN : Hid (wr.ownsRow B 5 1 (.slice A' (xs ++ litB x k).length c') (xs ++ litB x k).length ((xs ++ litB x k).flatMap bc)) := hide (HL.out.get 0 rfl)
    have hlen : (xs ++ litB x k).length ≤ 900008 := by rw [List.length_append, litB_len]; omega
    by_cases hlt : k < n
    · have HB : Hid (xs ++ litB x (k + 1) = (xs ++ litB x k) ++ [nth8 x k]) := hide (by rw [litB, List.append_assoc])
      generalize xs ++ litB x k = zs at *
      have hk8 : k < 8 := by omega
      go_wp2_with (at_builtin; refine wpList_append1 rfl (.tmp 12) (.tmp 18) 52 rfl B 5 i0 _ 1 1 Tryz.underlying52 hi0 hz0 hz1 hz2 rfl (by decide) (.slice A' zs.length c') zs.length _ (by simp [Act.eval]) OWN.out [.int .u8 (nth8 x k)] (by simp [Act.eval]) rfl (by intro u hu; simp at hu; subst hu; rfl) (by omega) (by omega) hb ?_; intro v' w2 ho t2 hnw; have L3 := hide (Lie.moreB HL.out ho t2 hnw); clear ho t2 hnw)
      go_roundw
      case rel => exact ⟨k + 1, by omega, by go_num, hide (by rw [HB.out]; exact L3.out)⟩
      case measure => simp [intOf]; omega
    · obtain rfl : k = n := by omega
      go_wp2_with fail
      go_ret
      exact ⟨_, rfl, HL⟩
end
end Go.Proofs.YtnljdcghaecdaaaGreatDoor
