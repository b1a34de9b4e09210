/-
  Bytes put behind others: numbers, texts.
-/
import Derived.Test.YtnljdcghaecdaaaGreatDoorSum
import Derived.Test.YtnljdcghaecdaaaGreatDoorSep
import Derived.OwnWalk
namespace Go.Proofs.YtnljdcghaecdaaaGreatDoor
open Go.RowKit
attribute [local go_sem] Oper.semAt_some

abbrev bc (z : Int) : List Value := [.int .u8 z]
theorem bc_len (z : Int) : (bc z).length = 1 := rfl
abbrev brow (B : Nat) (v : Value) (xs : List Int) : Thing := row B 5 1 v xs.length (xs.flatMap bc)
theorem info5 : (Tryz.prog.info? 5).map (fun i => (i.zero, i.size, i.bytes)) = some (some (.int .u8 0), 1, 1) := by kernel_rfl
theorem Lie.moreB {base : Nat} {w0 w w2 : World} {v v' : Value} {xs : List Int} {y : Int} {ts : List Thing} (h : Lie base w0 w (brow base v xs :: ts)) (ho : w2.ownsRow base 5 1 v' (xs.length + 1) (xs.flatMap bc ++ [.int .u8 y])) (t : Turn (fun k => v.ownBlock = some k) w w2) (hn : Newer w v v') :
    Lie base w0 w2 (brow base v' (xs ++ [y]) :: ts) :=
  h.step 0 (t' := brow base v' (xs ++ [y])) rfl t (by show w2.ownsRow base 5 1 v' (xs ++ [y]).length ((xs ++ [y]).flatMap bc); rw [List.length_append, List.flatMap_append]; simpa using ho) (fun k hk => hn k hk)
/-- A number's bytes: seven bits each, the lowest ones first. -/
def lowB (x : Nat) : Int := bits .or .u8 ((x : Int) % 256) 128
def varB (x : Nat) : List Int := if h : x < 128 then [(x : Int)] else lowB x :: varB (x / 128)
termination_by x
decreasing_by omega
theorem varB_small {y : Nat} (h : y < 128) : varB y = [(y : Int)] := by rw [varB, dif_pos h]
theorem varB_great {y : Nat} (h : ¬ y < 128) : varB y = lowB y :: varB (y / 128) := by rw [varB, dif_neg h]
theorem varB_len (x : Nat) (k : Nat) (h : x < 128 ^ (k + 1)) : (varB x).length ≤ k + 1 := by
  induction k generalizing x with
  | zero => rw [varB, dif_pos (by simpa using h)]; simp
  | succ k ih =>
    rw [varB]
    split
    · simp
    · have := ih (x / 128) (by rw [Nat.div_lt_iff_lt_mul (by omega)]; rwa [Nat.pow_succ] at h)
      simp; omega
theorem varB_ten (x : Nat) (h : x < 18446744073709551616) : (varB x).length ≤ 10 := varB_len x 9 (Nat.lt_trans h (by decide))
section
variable {B : Nat} {w0 w : World} {ts : List Thing} {v : Value} {xs : List Int}
set_option maxRecDepth 100000 in
set_option maxHeartbeats 2000000 in
theorem putvar_any (x : Nat) (hx : x < 18446744073709551616) (hn : xs.length ≤ 900000) (h : Lie B w0 w (brow B v xs :: ts)) :
    Calls Tryz.prog 18 #[v, .int .u64 x] w fun e w' => ∃ v', e = .returned v' ∧ Hid (Lie B w0 w' (brow B v' (xs ++ varB x) :: ts)) := by
  obtain ⟨i0, hi0, hz0, hz1, hz2⟩ := info_parts info5
  have H := hide h
  clear h
  go_enter Tryz.func18, Tryz.ntmps18
  go_wp2_with fail
  go_loopw [0, 1] (fun s0 s1 wr => ∃ (ds : List Int) (y : Nat), s1 = .int .u64 y ∧ y < 18446744073709551616 ∧ Hid (varB x = ds ++ varB y ∧ Lie B w0 wr (brow B s0 (xs ++ ds) :: ts))) (fun _ s1 _ => (intOf s1).toNat)
  case atStart => exact ⟨[], x, rfl, hx, hide ⟨rfl, by rw [List.append_nil]; exact H.out⟩⟩
  case round =>
    obtain ⟨ds, y, rfl, hy, HY⟩ := hrel
    have hd : ds.length ≤ 10 := by
      have h1 := congrArg List.length HY.out.1
      rw [List.length_append] at h1
      have h2 := varB_ten x hx
      omega
    obtain ⟨A', c', rfl⟩ := (Rd.of_own (HY.out.2.get 0 rfl)).shape
    have hb := HY.out.2.base_le
    have OWN : Hid (wr.ownsRow B 5 1 (.slice A' (xs ++ ds).length c') (xs ++ ds).length ((xs ++ ds).flatMap bc)) := hide (HY.out.2.get 0 rfl)
    have hlen : (xs ++ ds).length ≤ 900020 := by rw [List.length_append]; omega
    by_cases h128 : y < 128
    · have hv : Hid (varB x = ds ++ [(y : Int)]) := hide (by have h1 := HY.out.1; rw [varB_small h128] at h1; exact h1)
      have HL := hide HY.out.2
      have hm : (y : Int) % 256 = (y : Int) := by omega
      generalize hz : xs ++ ds = zs at *
      have HZ := hide hz
      clear hz
      go_wp2_with (at_builtin; refine wpList_append1 rfl (.tmp 15) (.tmp 18) 52 rfl B 5 i0 _ 1 1 Tryz.underlying52 hi0 hz0 hz1 hz2 rfl (by decide) (.slice A' zs.length c') zs.length _ (by simp [Act.eval]) OWN.out [.int .u8 (y : Int)] (by simp [Act.eval]) rfl (by intro u hu; simp at hu; subst hu; rfl) (by omega) (by omega) hb ?_; intro v' w2 ho t2 hnw; have L3 := hide (Lie.moreB HL.out ho t2 hnw); clear ho t2 hnw)
      go_ret
      exact ⟨v', rfl, hide (by rw [hv.out, ← List.append_assoc, HZ.out]; exact L3.out)⟩
    · have hv : Hid (varB x = (ds ++ [lowB y]) ++ varB (y / 128)) := hide (by have h1 := HY.out.1; rw [h1, varB_great h128]; simp)
      have HL := hide HY.out.2
      have HDL : Hid (xs ++ (ds ++ [lowB y]) = (xs ++ ds) ++ [lowB y]) := hide (by simp)
      generalize xs ++ ds = zs at *
      go_wp2_with (at_builtin; refine wpList_append1 rfl (.tmp 9) (.tmp 13) 52 rfl B 5 i0 _ 1 1 Tryz.underlying52 hi0 hz0 hz1 hz2 rfl (by decide) (.slice A' zs.length c') zs.length _ (by simp [Act.eval]) OWN.out [.int .u8 (lowB y)] (by simp [Act.eval]) rfl (by intro u hu; simp at hu; subst hu; rfl) (by omega) (by omega) hb ?_; intro v' w2 ho t2 hnw; have L3 := hide (Lie.moreB HL.out ho t2 hnw); clear ho t2 hnw)
      go_roundw
      case rel => exact ⟨ds ++ [lowB y], y / 128, by simp, by omega, hide ⟨hv.out, by rw [HDL.out]; exact L3.out⟩⟩
      case measure => simp [intOf]; omega
end
end Go.Proofs.YtnljdcghaecdaaaGreatDoor
