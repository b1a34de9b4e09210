/-
  The sum: its table, and of a text.
-/
import Derived.Test.YtnljdcghaecdaaaGreatDoorStep
import Derived.Test.YtnljdcghaecdaaaGreatDoorProg
import Derived.Deep.RegionWith
import Derived.BigQuiet
import Derived.Deep.LoopGhost
import Derived.Sort.WalkA
import Derived.Laws.Closers25b
namespace Go.Proofs.YtnljdcghaecdaaaGreatDoor
open Go.RowKit
attribute [local go_sem] Oper.semAt_some

/-- One step of the sum's word. -/
def st (c : Int) : Int := if (bits .and .u32 c 1 == 1) = true then bits .xor .u32 (c / 2) 2197175160 else c / 2
def stn (c : Int) : Nat → Int
  | 0 => c
  | n + 1 => st (stn c n)
/-- The table's words. -/
def tb (i : Nat) : Int := stn (i : Int) 8
/-- A block that holds the first so many words. -/
def TblAt (r k : Nat) (w : World) : Prop := ∃ cs : Array Value, w.heap[r]? = some (.cells cs 152 (0, 0)) ∧ cs.size = 256 ∧ ∀ i, i < k → cs[i]? = some (.int .u32 (tb i))
theorem TblAt.slot {r k : Nat} {w : World} (h : TblAt r k w) (i : Nat) (hi : i < 256) : (∃ v, w.cell? ⟨r, i, none⟩ = some v) ∧ w.frozen? ⟨r, i, none⟩ = false := by
  obtain ⟨cs, hb, hs, _⟩ := h
  refine ⟨⟨cs[i], ?_⟩, by simp [World.frozen?, hb]⟩
  simp [World.cell?, hb, hs, hi]
theorem TblAt.word {r : Nat} {w : World} (h : TblAt r 256 w) (i : Nat) (hi : i < 256) : w.cell? ⟨r, i, none⟩ = some (.int .u32 (tb i)) := by
  obtain ⟨cs, hb, _, hw⟩ := h
  have := hw i hi
  simp [World.cell?, hb, this]
theorem TblAt.put {r k : Nat} {w : World} (h : TblAt r k w) (hk : k < 256) : TblAt r (k + 1) (w.setCell ⟨r, k, none⟩ (.int .u32 (tb k))) := by
  obtain ⟨cs, hb, hs, hw⟩ := h
  refine ⟨cs.setIfInBounds k (.int .u32 (tb k)), by simp [World.setCell, Array.getElem?_modify, hb], by simpa using hs, fun i hi => ?_⟩
  rw [Array.getElem?_setIfInBounds]
  by_cases e : k = i
  · subst e; simp [hs, hk]
  · rw [if_neg e]; exact hw i (by omega)
theorem size152 : Tryz.zeroCells152.size = 256 := by kernel_rfl
set_option maxRecDepth 100000 in
set_option maxHeartbeats 2000000 in
theorem table_any (w : World) : Calls Tryz.prog 65 #[] w fun e w' => ∃ b, e = .returned (.pointer (some ⟨b, 0, none⟩)) ∧ TblAt b 256 w' ∧ Turn (fun _ => False) w w' := by
  obtain ⟨r, hr⟩ : ∃ r, r = w.heap.size := ⟨_, rfl⟩
  have HR := hide hr
  have T0 : Hid (TblAt r 0 (w.alloc (.cells Tryz.zeroCells152 152)) ∧ Turn (fun _ => False) w (w.alloc (.cells Tryz.zeroCells152 152))) := hide ⟨⟨_, by rw [hr]; exact heap_alloc_new w _, size152, fun i hi => by omega⟩, (Turn.refl _ w).alloc _⟩
  clear hr
  go_enter Tryz.func65, Tryz.ntmps65
  go_wp2_with fail
  rw [← HR.out]
  go_loopw [3, 2, 4] (fun s3 s2 s4 wr => ∃ k : Nat, k ≤ 256 ∧ s4 = .int .i64 k ∧ Hid (TblAt r k wr ∧ Turn (fun _ => False) w wr)) (fun _ _ s _ => 256 - (intOf s).toNat)
  case atStart => exact ⟨0, by omega, rfl, T0⟩
  case round =>
    clear T0
    obtain ⟨k, hk, rfl, HT⟩ := hrel
    by_cases hlt : k < 256
    · go_wp2_with fail
      go_loopw [3, 9] (fun s3 s9 wx => ∃ j : Nat, j ≤ 8 ∧ s9 = .int .i64 j ∧ s3 = .int .u32 (stn (k : Int) j) ∧ Hid (wx = wr)) (fun _ s _ => 8 - (intOf s).toNat)
      case atStart => exact ⟨0, by omega, rfl, rfl, hide rfl⟩
      case round =>
        obtain ⟨j, hj, rfl, rfl, HW⟩ := hrel
        have hsn : stn (k : Int) (j + 1) = st (stn (k : Int) j) := rfl
        have HSN := hide hsn
        clear hsn
        by_cases hj8 : j < 8
        · generalize stn (k : Int) j = c at *
          by_cases hc : (bits .and .u32 c 1 == 1) = true
          · have hst : Hid (st c = bits .xor .u32 (c / 2) 2197175160) := hide (by unfold st; rw [if_pos hc])
            go_wp2_with fail
            go_roundw
            case rel => exact ⟨j + 1, by omega, by go_num, by rw [HSN.out, hst.out], HW⟩
            case measure => simp [intOf]; omega
          · have hst : Hid (st c = c / 2) := hide (by unfold st; rw [if_neg hc])
            have hc2 := Bool.eq_false_iff.2 hc
            clear hc
            go_wp2_with fail
            go_roundw
            case rel => exact ⟨j + 1, by omega, by go_num, by rw [HSN.out, hst.out], HW⟩
            case measure => simp [intOf]; omega
        · obtain rfl : j = 8 := by omega
          have ht8 : stn (k : Int) 8 = tb k := rfl
          rw [ht8]
          have hwx := HW.out
          subst hwx
          obtain ⟨⟨v0, c0⟩, f0⟩ := HT.out.1.slot k hlt
          have T1 : Hid (TblAt r (k + 1) (wr.setCell ⟨r, k, none⟩ (.int .u32 (tb k))) ∧ Turn (fun _ => False) w (wr.setCell ⟨r, k, none⟩ (.int .u32 (tb k)))) := hide ⟨HT.out.1.put hlt, (HT.out.2.step ((Turn.refl (· = r) _).setCell (p := ⟨r, k, none⟩) (fun _ => rfl) _) (fun g hg e => by rw [e, HR.out] at hg; omega)).mono (fun _ _ h => h.elim)⟩
          go_wp2_with fail
          go_roundw
          case rel => exact ⟨k + 1, by omega, by go_num, T1⟩
          case measure => simp [intOf]; omega
    · obtain rfl : k = 256 := by omega
      go_wp2_with fail
      go_ret
      exact ⟨r, rfl, HT.out⟩

/-- A text's byte. -/
def byt (s : ByteArray) (i : Nat) : Int := if h : i < s.size then ((s[i]'h).toNat : Int) else 0
def cr (c b : Int) : Int := bits .xor .u32 (c / 256) (tb (bits .xor .u8 (IntKind.u8.wrap c) b).toNat)
def crn (c0 : Int) (s : ByteArray) : Nat → Int
  | 0 => bits .xor .u32 IntKind.u32.max c0
  | i + 1 => cr (crn c0 s i) (byt s i)
theorem u32_in (op : BinOp) (a b : Int) : 0 ≤ bits op .u32 a b ∧ bits op .u32 a b < 4294967296 := by
  have := bits_within op .u32 a b
  have h0 : IntKind.u32.min = 0 := by decide
  have h1 : IntKind.u32.max = 4294967295 := by decide
  omega
theorem crn_in (c0 : Int) (s : ByteArray) (i : Nat) : 0 ≤ crn c0 s i ∧ crn c0 s i < 4294967296 := by
  cases i with
  | zero => rw [crn]; exact u32_in _ _ _
  | succ i => rw [crn, cr]; exact u32_in _ _ _
/-- The sum of a text that goes on. -/
def more (c0 : Int) (s : ByteArray) : Int := bits .xor .u32 IntKind.u32.max (crn c0 s s.size)
set_option maxRecDepth 100000 in
set_option maxHeartbeats 2000000 in
theorem more_any (c0 : Int) (s : ByteArray) (w : World) (hs : s.size ≤ 1000000) : Calls Tryz.prog 33 #[.int .u32 c0, .string s] w fun e w' => e = .returned (.int .u32 (more c0 s)) ∧ Turn (fun _ => False) w w' := by
  go_enter Tryz.func33, Tryz.ntmps33
  go_wp2_with fail
  refine (table_any w).mono ?_
  rintro e w1 ⟨b, rfl, hT, t1⟩
  have HT := hide hT
  have T1 := hide t1
  clear hT t1
  go_wp2_with fail
  go_loopw [0, 6, 12] (fun s0 s6 s12 wr => ∃ i : Nat, i ≤ s.size ∧ s12 = .int .i64 i ∧ s0 = .int .u32 (crn c0 s i) ∧ Hid (∃ d, wr = w1.drewN d)) (fun _ _ s' _ => s.size - (intOf s').toNat)
  case atStart => exact ⟨0, by omega, rfl, rfl, hide ⟨0, rfl⟩⟩
  case round =>
    obtain ⟨i, hi, rfl, rfl, HD⟩ := hrel
    by_cases hlt : i < s.size
    · obtain ⟨hc0, hc1⟩ := crn_in c0 s i
      have HS : Hid (crn c0 s (i + 1) = cr (crn c0 s i) (byt s i)) := hide rfl
      generalize crn c0 s i = c at *
      have hby : byt s i = ((s[i]'hlt).toNat : Int) := by unfold byt; rw [dif_pos hlt]
      obtain ⟨x, hx⟩ : ∃ x, x = bits .xor .u8 (IntKind.u8.wrap c) (byt s i) := ⟨_, rfl⟩
      have hx0 : 0 ≤ x := by rw [hx]; exact bits_lo_u8 _ _ _
      have hx1 : x < 256 := by have := bits_hi_u8 .xor (IntKind.u8.wrap c) (byt s i); rw [← hx] at this; omega
      have hw : wr.cell? ⟨b, x.toNat, none⟩ = some (.int .u32 (tb x.toNat)) := by
        obtain ⟨d, hd⟩ := HD.out
        rw [hd]
        exact HT.out.word x.toNat (by omega)
      have HBY := hide hx
      rw [hby] at hx
      have HX := hide hx
      have hx2 := hx.symm
      clear hx hby
      go_wp2_with fail
      go_quiet (fail)
      go_wp2_with fail
      go_roundw
      case rel => exact ⟨i + 1, by omega, by go_num, by rw [HS.out, cr, ← HBY.out], hide (by obtain ⟨d, hd⟩ := HD.out; rw [hd]; exact ⟨_, World.drewN_drewN ..⟩)⟩
      case measure => simp [intOf]; omega
    · obtain rfl : i = s.size := by omega
      go_wp2_with fail
      go_ret
      exact ⟨rfl, by obtain ⟨d, hd⟩ := HD.out; rw [hd]; exact T1.out.drewN _⟩
end Go.Proofs.YtnljdcghaecdaaaGreatDoor
