/-
  Types that are right.
-/
import Derived.Test.YtnljdcghaecdaaaGreatDoorFind
namespace Go.Proofs.YtnljdcghaecdaaaGreatDoor
open Go.RowKit Go.Lib Go.Maps
attribute [local go_sem] Oper.semAt_some

def bare0 (x : ByteArray) : Bool := decide (x = ⟨#[]⟩)
def midB (x : SortD) : Bool := (decide (x.kind = 5) || decide (x.kind = 6)) && bare0 x.name
def lastB (rs : List RecD) (x : SortD) : Bool :=
  if x.kind = 1 ∨ x.kind = 2 ∨ x.kind = 3 ∨ x.kind = 4 then bare0 x.name else if x.kind = 7 then hasR rs x.name else false
def rightB (rs : List RecD) (ts : List SortD) : Bool :=
  decide (ts.length ≤ 12) && match ts.getLast? with | none => false | some x => ts.dropLast.all midB && lastB rs x
theorem bare_eq (x : ByteArray) : (x.toList == ([] : List UInt8)) = bare0 x := by
  have h : (⟨#[]⟩ : ByteArray).toList = [] := by rw [Go.ByteArray.toList_eq]
  have := str_eq x ⟨#[]⟩
  rwa [h] at this
theorem right_none (rs : List RecD) : rightB rs [] = false := rfl
theorem right_long {rs : List RecD} {ts : List SortD} (h : ¬ ts.length ≤ 12) : rightB rs ts = false := by unfold rightB; simp [h]
theorem right_mid {rs : List RecD} {ts : List SortD} {t : Nat} (ht : t < ts.length) (h : t < ts.length - 1) (hm : midB ts[t] = false) : rightB rs ts = false := by
  unfold rightB
  have : ts.dropLast.all midB = false := by
    rw [Bool.eq_false_iff]
    intro hc
    have h2 : t < ts.dropLast.length := by simp; omega
    have := List.all_eq_true.1 hc ts.dropLast[t] (List.getElem_mem h2)
    rw [List.getElem_dropLast] at this
    rw [hm] at this
    cases this
  rw [this]
  cases ts.getLast? <;> simp
theorem right_last {rs : List RecD} {ts : List SortD} (h0 : 0 < ts.length) (h12 : ts.length ≤ 12) (hm : ∀ t (ht : t < ts.length), t < ts.length - 1 → midB ts[t] = true) : rightB rs ts = lastB rs (ts[ts.length - 1]'(by omega)) := by
  unfold rightB
  have h1 : ts.getLast? = some (ts[ts.length - 1]'(by omega)) := by rw [List.getLast?_eq_getElem?, List.getElem?_eq_getElem]
  have h2 : ts.dropLast.all midB = true := by
    rw [List.all_eq_true]
    intro x hx
    obtain ⟨t, ht, rfl⟩ := List.getElem_of_mem hx
    rw [List.getElem_dropLast]
    simp at ht
    exact hm t (by omega) (by omega)
  rw [h1, h2]
  simp [h12]
def BoolTo (b : Bool) (w : World) (e : Ending) (w' : World) : Prop := e = .returned (.bool b) ∧ Turn (fun _ => False) w w'
set_option maxRecDepth 100000 in
set_option maxHeartbeats 8000000 in
theorem rightT_any (s : SchD) (tv : Value) (ts : List SortD) (w : World) (h : SchAt w s) (g : GSch s) (ht : SortsAt w tv ts) (hp : ts.length ≤ 1000) : Calls Tryz.prog 101 #[schv s, tv] w (BoolTo (rightB s.rs ts) w) := by
  have CF := hide (fun (x : ByteArray) (w' : World) (t : Turn (fun _ => False) w w') => find_any s x w' (h.on t) g)
  have HT := hide ht
  obtain ⟨At, ct, rfl⟩ := ht.1.shape
  have hcap := ht.2.le
  obtain ⟨p, hpp⟩ : ∃ p, p = ts.length := ⟨_, rfl⟩
  have HP := hide hpp
  rw [← hpp] at hp hcap
  rw [← hpp]
  generalize s.rs = rs at *
  obtain ⟨name, rs0, rv, vs, vv, gs, gv⟩ := s
  clear h g ht hpp
  unfold schv at *
  simp only at *
  obtain ⟨w1, hw1⟩ : ∃ w1, w1 = w.alloc (.cells #[.string name, rv, vv, gv] 26) := ⟨_, rfl⟩
  obtain ⟨r, hr⟩ : ∃ r, r = w.heap.size := ⟨_, rfl⟩
  have S1 : Hid (Lie w.heap.size w w1 [box r (.cells #[.string name, rv, vv, gv] 26 (0, 0))]) := hide (by rw [hw1, hr]; exact (Lie.start w).alloc _)
  have HW := hide hw1
  have HR := hide hr
  clear hw1 hr
  by_cases h0 : p = 0
  · have HF : Hid (rightB rs ts = false) := hide (by
      obtain rfl : ts = [] := List.eq_nil_of_length_eq_zero (by rw [← HP.out]; exact h0)
      rfl)
    subst h0
    go_enter Tryz.func101, Tryz.ntmps101
    go_wp2_with fail
    rw [← HW.out]
    go_ret
    exact ⟨by rw [HF.out]; rfl, turn_of S1.out⟩
  · have hz : ((p : Int) == 0) = false := by simp [h0]
    by_cases h12 : p ≤ 12
    · obtain ⟨q, rfl⟩ : ∃ q, p = q + 1 := ⟨p - 1, by omega⟩
      clear hz
      have hz : (((q : Int) + 1) == 0) = false := by rw [beq_eq_false_iff_ne]; omega
      go_enter Tryz.func101, Tryz.ntmps101
      go_wp2_with fail
      rw [← HW.out, ← HR.out]
      go_loopw [24] (fun s24 wr => ∃ k : Nat, k ≤ q ∧ s24 = .int .i64 k ∧ Hid (Lie w.heap.size w wr [box r (.cells #[.string name, rv, vv, gv] 26 (0, 0))]) ∧ Hid (∀ t (ht : t < ts.length), t < k → midB ts[t] = true)) (fun s24 _ => q - (intOf s24).toNat)
      case atStart => exact ⟨0, by omega, rfl, S1, hide (fun t _ h => by omega)⟩
      case round =>
        clear S1 HW
        obtain ⟨k, hk, rfl, HL, HI⟩ := hrel
        obtain ⟨b, o, rfl, hb, hny, hcy⟩ := sort_at (A := At) (c := ct) (n := ts.length) ts (HT.out.on (turn_of HL.out)) (by have := HP.out; omega)
        clear hny
        by_cases hlt : k < q
        · have hil : k < ts.length := by have := HP.out; omega
          obtain ⟨k0, k1⟩ := hcy k hil
          clear hcy
          obtain ⟨⟨sk, sn⟩, hsd⟩ : ∃ v, v = ts[k] := ⟨_, rfl⟩
          have HSD := hide hsd
          rw [← hsd] at k0 k1
          clear hsd
          simp only at k0 k1
          obtain ⟨w2, hw2⟩ : ∃ w2, w2 = wr.alloc (.cells #[.int .u8 sk, .string sn] 44) := ⟨_, rfl⟩
          have S2 : Hid (Lie w.heap.size w w2 [box r (.cells #[.string name, rv, vv, gv] 26 (0, 0))]) := hide (by rw [hw2]; exact HL.out.skip _)
          have HW2 := hide hw2
          clear hw2
          have e1 : (sn.toList == ([] : List UInt8)) = bare0 sn := bare_eq sn
          have hbad : ∀ hm : midB ts[k] = false, Hid (rightB rs ts = false) := fun hm => hide (right_mid hil (by have := HP.out; omega) hm)
          have hgood : midB ts[k] = true → Hid (∀ t (ht : t < ts.length), t < k + 1 → midB ts[t] = true) := fun hm => hide (all_next (P := fun x => midB x = true) HI.out hil hm)
          rw [← HSD.out] at hbad hgood
          cases hbn : bare0 sn with
          | true =>
            rw [hbn] at e1
            by_cases h5 : sk = 5
            · have HI2 := hgood (by unfold midB; simp [h5, hbn])
              clear hbad hgood
              subst h5
              go_wp2_with fail
              rw [← HW2.out]
              go_roundw
              case rel => exact ⟨k + 1, by omega, by go_num, S2, HI2⟩
              case measure => simp [intOf]; omega
            · by_cases h6 : sk = 6
              · have HI2 := hgood (by unfold midB; simp [h6, hbn])
                clear hbad hgood
                subst h6
                go_wp2_with fail
                rw [← HW2.out]
                go_roundw
                case rel => exact ⟨k + 1, by omega, by go_num, S2, HI2⟩
                case measure => simp [intOf]; omega
              · have HF := hbad (by unfold midB; simp [h5, h6])
                clear hbad hgood
                go_wp2_with fail
                rw [← HW2.out]
                go_ret
                exact ⟨by rw [HF.out]; rfl, turn_of S2.out⟩
          | false =>
            rw [hbn] at e1
            have HF := hbad (by unfold midB; simp [hbn])
            clear hbad hgood
            by_cases h5 : sk = 5
            · subst h5
              go_wp2_with fail
              rw [← HW2.out]
              go_ret
              exact ⟨by rw [HF.out]; rfl, turn_of S2.out⟩
            · by_cases h6 : sk = 6
              · subst h6
                go_wp2_with fail
                rw [← HW2.out]
                go_ret
                exact ⟨by rw [HF.out]; rfl, turn_of S2.out⟩
              · go_wp2_with fail
                rw [← HW2.out]
                go_ret
                exact ⟨by rw [HF.out]; rfl, turn_of S2.out⟩
        · obtain rfl : k = q := by omega
          have hil : k < ts.length := by have := HP.out; omega
          obtain ⟨k0, k1⟩ := hcy k hil
          clear hcy
          have HG : Hid (rightB rs ts = lastB rs ts[k]) := hide (by
            have := right_last (rs := rs) (ts := ts) (by omega) (by have := HP.out; omega) (fun t ht h => HI.out t ht (by have := HP.out; omega))
            rw [this]
            congr 2
            have := HP.out; omega)
          obtain ⟨⟨sk, sn⟩, hsd⟩ : ∃ v, v = ts[k] := ⟨_, rfl⟩
          rw [← hsd] at k0 k1 HG
          clear hsd
          simp only at k0 k1
          obtain ⟨w2, hw2⟩ : ∃ w2, w2 = wr.alloc (.cells #[.int .u8 sk, .string sn] 44) := ⟨_, rfl⟩
          have S2 : Hid (Lie w.heap.size w w2 [box wr.heap.size (.cells #[.int .u8 sk, .string sn] 44 (0, 0)), box r (.cells #[.string name, rv, vv, gv] 26 (0, 0))]) := hide (by rw [hw2]; exact HL.out.alloc _)
          have HW2 := hide hw2
          clear hw2 HI
          have e1 : (sn.toList == ([] : List UInt8)) = bare0 sn := bare_eq sn
          by_cases h1 : sk = 1
          · subst h1
            have HF : Hid (rightB rs ts = bare0 sn) := hide (HG.out.trans (by unfold lastB; simp))
            go_wp2_with fail
            rw [← HW2.out]
            go_ret
            exact ⟨by rw [HF.out]; rfl, turn_of S2.out⟩
          · by_cases h2 : sk = 2
            · subst h2
              have HF : Hid (rightB rs ts = bare0 sn) := hide (HG.out.trans (by unfold lastB; simp))
              go_wp2_with fail
              rw [← HW2.out]
              go_ret
              exact ⟨by rw [HF.out]; rfl, turn_of S2.out⟩
            · by_cases h3 : sk = 3
              · subst h3
                have HF : Hid (rightB rs ts = bare0 sn) := hide (HG.out.trans (by unfold lastB; simp))
                go_wp2_with fail
                rw [← HW2.out]
                go_ret
                exact ⟨by rw [HF.out]; rfl, turn_of S2.out⟩
              · by_cases h4 : sk = 4
                · subst h4
                  have HF : Hid (rightB rs ts = bare0 sn) := hide (HG.out.trans (by unfold lastB; simp))
                  go_wp2_with fail
                  rw [← HW2.out]
                  go_ret
                  exact ⟨by rw [HF.out]; rfl, turn_of S2.out⟩
                · by_cases h7 : sk = 7
                  · subst h7
                    have HF : Hid (rightB rs ts = hasR rs sn) := hide (HG.out.trans (by unfold lastB; simp))
                    obtain ⟨z0, z1, z2, z3⟩ := cell4 (S2.out.get 1 rfl)
                    rw [HW2.out] at z0 z1 z2 z3
                    have CF2 := hide (CF.out sn w2 (turn_of S2.out))
                    go_wp2_with fail
                    rw [← HW2.out]
                    refine CF2.out.mono ?_
                    rintro e w3 ⟨⟨rn, rc, rf, rfv⟩, rfl, _, hF, T3⟩
                    obtain ⟨A3, c3, hs3⟩ := hF.1.shape
                    simp only at hs3
                    subst hs3
                    have S3 := hide ((S2.out.stay T3).skip (.cells #[.string rn, .bool rc, .slice A3 rf.length c3] 61))
                    clear z0 z1 z2 z3 hF T3 CF2
                    go_wp2_with fail
                    go_ret
                    exact ⟨by rw [HF.out]; rfl, turn_of S3.out⟩
                  · have HF : Hid (rightB rs ts = false) := hide (HG.out.trans (by unfold lastB; simp [h1, h2, h3, h4, h7]))
                    go_wp2_with fail
                    rw [← HW2.out]
                    go_ret
                    exact ⟨by rw [HF.out]; rfl, turn_of S2.out⟩
    · have HF : Hid (rightB rs ts = false) := hide (right_long (by rw [← HP.out]; exact h12))
      go_enter Tryz.func101, Tryz.ntmps101
      go_wp2_with fail
      rw [← HW.out]
      go_ret
      exact ⟨by rw [HF.out]; rfl, turn_of S1.out⟩
end Go.Proofs.YtnljdcghaecdaaaGreatDoor
