/-
  Orders; contraries; parts' names by number.
-/
import Derived.Test.YtnljdcghaecdaaaGreatDoorRgt
namespace Go.Proofs.YtnljdcghaecdaaaGreatDoor
open Go.RowKit Go.Lib Go.Maps
attribute [local go_sem] Oper.semAt_some

theorem lit_eq (x : ByteArray) (l : List UInt8) : (x.toList == l) = decide (x = ⟨l.toArray⟩) := by
  have h : (⟨l.toArray⟩ : ByteArray).toList = l := by rw [Go.ByteArray.toList_eq]
  have := str_eq x ⟨l.toArray⟩
  rwa [h] at this
def onlyB (ts : List SortD) (k : Int) : Bool := match ts with | [x] => decide (x.kind = k) | _ => false
set_option maxRecDepth 100000 in
theorem only_any (tv : Value) (ts : List SortD) (k : Int) (w : World) (ht : SortsAt w tv ts) : Calls Tryz.prog 115 #[tv, .int .u8 k] w fun e w' => e = .returned (.bool (onlyB ts k)) ∧ w' = w := by
  obtain ⟨A, c, rfl⟩ := ht.1.shape
  by_cases h1 : ts.length = 1
  · obtain ⟨x, rfl⟩ := List.length_eq_one_iff.1 h1
    obtain ⟨b, o, rfl, hb, hn, hc⟩ := sort_at [x] ht (by simp)
    obtain ⟨k0, k1⟩ := hc 0 (by simp)
    have HB : Hid (onlyB [x] k = (x.kind == k)) := hide (by rw [Bool.eq_iff_iff]; simp [onlyB])
    simp only [List.getElem_cons_zero, Nat.zero_mul, Nat.add_zero] at k0
    clear hc k1 ht
    go_enter Tryz.func115, Tryz.ntmps115
    go_wp2_with fail
    go_ret
    exact ⟨by rw [HB.out]; rfl, rfl⟩
  · have HB : Hid (onlyB ts k = false) := hide (by
      match ts, h1 with
      | [], _ => rfl
      | [x], h => simp at h
      | _ :: _ :: _, _ => rfl)
    obtain ⟨n, hn⟩ : ∃ n, n = ts.length := ⟨_, rfl⟩
    rw [← hn] at h1 ⊢
    have hz : ((n : Int) == 1) = false := by rw [beq_eq_false_iff_ne]; omega
    clear ht hn
    go_enter Tryz.func115, Tryz.ntmps115
    go_wp2_with fail
    go_ret
    exact ⟨by rw [HB.out]; rfl, rfl⟩
def giveS : ByteArray := ⟨#[103, 105, 118, 101]⟩
def takeS : ByteArray := ⟨#[116, 97, 107, 101]⟩
def noteS : ByteArray := ⟨#[110, 111, 116, 101]⟩
def contraryS (x : ByteArray) : ByteArray := if x = giveS then takeS else if x = takeS then giveS else if x = noteS then noteS else ⟨#[]⟩
set_option maxRecDepth 100000 in
theorem contrary_any (x : ByteArray) (w : World) : Calls Tryz.prog 103 #[.string x] w fun e w' => e = .returned (.string (contraryS x)) ∧ w' = w := by
  have e1 : (x.toList == [103, 105, 118, 101]) = decide (x = giveS) := lit_eq x _
  have e2 : (x.toList == [116, 97, 107, 101]) = decide (x = takeS) := lit_eq x _
  have e3 : (x.toList == [110, 111, 116, 101]) = decide (x = noteS) := lit_eq x _
  by_cases h1 : x = giveS
  · have HC : Hid (contraryS x = takeS) := hide (by unfold contraryS; rw [if_pos h1])
    rw [decide_eq_true h1] at e1
    clear h1 e2 e3
    go_enter Tryz.func103, Tryz.ntmps103
    go_wp2_with fail
    go_ret
    exact ⟨by rw [HC.out]; rfl, rfl⟩
  · rw [decide_eq_false h1] at e1
    by_cases h2 : x = takeS
    · have HC : Hid (contraryS x = giveS) := hide (by unfold contraryS; rw [if_neg h1, if_pos h2])
      rw [decide_eq_true h2] at e2
      clear h1 h2 e3
      go_enter Tryz.func103, Tryz.ntmps103
      go_wp2_with fail
      go_ret
      exact ⟨by rw [HC.out]; rfl, rfl⟩
    · rw [decide_eq_false h2] at e2
      by_cases h3 : x = noteS
      · have HC : Hid (contraryS x = noteS) := hide (by unfold contraryS; rw [if_neg h1, if_neg h2, if_pos h3])
        rw [decide_eq_true h3] at e3
        clear h1 h2 h3
        go_enter Tryz.func103, Tryz.ntmps103
        go_wp2_with fail
        go_ret
        exact ⟨by rw [HC.out]; rfl, rfl⟩
      · have HC : Hid (contraryS x = ⟨#[]⟩) := hide (by unfold contraryS; rw [if_neg h1, if_neg h2, if_neg h3])
        rw [decide_eq_false h3] at e3
        clear h1 h2 h3
        go_enter Tryz.func103, Tryz.ntmps103
        go_wp2_with fail
        go_ret
        exact ⟨by rw [HC.out]; rfl, rfl⟩
theorem digits_all : (List.range 100).all (fun i => decide ((Lib.decDigits i).length ≤ 2)) = true := by kernel_rfl
theorem digits_short (i : Nat) (hi : i < 100) : (Lib.decDigits i).length ≤ 2 := of_decide_eq_true (List.all_eq_true.1 digits_all i (List.mem_range.2 hi))
set_option maxRecDepth 100000 in
theorem nth_any (x : ByteArray) (i : Nat) (w : World) (hx : x.size ≤ 100000) (hi : i < 100) : Calls Tryz.prog 106 #[.string x, .int .i64 i] w fun en w' => (∃ z, en = .returned (.string z)) ∧ w' = w := by
  have C1 := hide (Tryz.strconv_Itoa_small i hi w)
  have C2 := hide (part_any x ⟨(Lib.decDigits i).toArray⟩ w hx (by
    have := digits_short i hi
    have e : (⟨(Lib.decDigits i).toArray⟩ : ByteArray).size = (Lib.decDigits i).length := by simp [ByteArray.size]
    omega))
  generalize (⟨(Lib.decDigits i).toArray⟩ : ByteArray) = z at *
  go_enter Tryz.func106, Tryz.ntmps106
  go_wp2_with fail
  refine C1.out.mono ?_
  rintro e w1 ⟨rfl, rfl⟩
  go_wp2_with fail
  refine C2.out.mono ?_
  rintro e w2 ⟨⟨y, rfl⟩, rfl⟩
  go_wp2_with fail
  go_ret
  exact ⟨⟨_, rfl⟩, rfl⟩
end Go.Proofs.YtnljdcghaecdaaaGreatDoor
