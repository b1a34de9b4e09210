/-
  A type's text: none, or the type's form is right.
-/
import Derived.Test.YtnljdcghaecdaaaGreatDoorTxt
namespace Go.Proofs.YtnljdcghaecdaaaGreatDoor
open Go.RowKit Go.Lib Go.Maps
attribute [local go_sem] Oper.semAt_some

def TypTo (ts : List SortD) (w : World) (e : Ending) (w' : World) : Prop := ∃ z : ByteArray, e = .returned (.string z) ∧ (z ≠ ⟨#[]⟩ → wfT ts = true) ∧ Turn (fun _ => False) w w'
theorem lay_wrt {B : Nat} {w0 w : World} {ts : List Thing} (h : Hid (Lie B w0 w ts)) : Hid (Lie B w0 (w.alloc (.cells #[.slice none 0 0] 110)) (wrt B w.heap.size [] :: ts)) := by
  have hb := heap_alloc_new w (.cells #[.slice none 0 0] 110)
  refine hide (h.out.push ((Turn.refl _ w).alloc _) ⟨.slice none 0 0, hb, World.ownsRow_nil _ _ _ _, fun e => by cases e⟩ (fun k hk => ?_))
  rcases hk with rfl | ⟨v', hb', e⟩
  · exact Nat.le_refl _
  · have e2 := hb.symm.trans hb'
    have : Value.slice none 0 0 = v' := by simpa using e2
    subst this
    cases e
theorem sortW_le {x : SortD} (h : x.name.size ≤ 200) : (sortW x).size ≤ 200 := by
  unfold sortW
  repeat' split
  all_goals first | exact h | decide
set_option maxRecDepth 100000 in
set_option maxHeartbeats 16000000 in
theorem type_any (tv : Value) (ts : List SortD) (w : World) (ht : SortsAt w tv ts) (hg : ∀ x ∈ ts, GSort x) (hp : ts.length ≤ 300) (hk : Kw w) : Calls Tryz.prog 51 #[tv] w (TypTo ts w) := by
  have HT := hide ht
  obtain ⟨At, ct, rfl⟩ := ht.1.shape
  obtain ⟨p, hpp⟩ : ∃ p, p = ts.length := ⟨_, rfl⟩
  have HP := hide hpp
  rw [← hpp] at hp
  rw [← hpp]
  have HG := hide hg
  have HK := hide hk
  clear ht hg hk hpp
  by_cases h0 : p = 0
  · subst h0
    go_enter Tryz.func51, Tryz.ntmps51
    go_wp2_with fail
    go_ret
    exact ⟨_, rfl, (fun h => absurd rfl h), Turn.refl _ _⟩
  · have hz : ((p : Int) == 0) = false := by simp [h0]
    by_cases h12 : p ≤ 12
    · go_enter Tryz.func51, Tryz.ntmps51
      go_wp2_with fail
      go_loopw [17] (fun s17 wr => ∃ k : Nat, k ≤ p ∧ s17 = .int .i64 k ∧ Hid (Lie w.heap.size w wr []) ∧ Hid (∀ t (ht : t < ts.length), t < k → (t + 1 < p → midK ts[t] = true) ∧ (t + 1 = p → midK ts[t] = false))) (fun s17 _ => p - (intOf s17).toNat)
      case atStart => exact ⟨0, by omega, rfl, hide (Lie.start w), hide (fun t _ h => by omega)⟩
      case round =>
        obtain ⟨k, hk, rfl, HL, HI⟩ := hrel
        by_cases hlt : k < p
        · have hil : k < ts.length := by have := HP.out; omega
          obtain ⟨x, b, o, HX, rfl, hb, k0, k1⟩ := sort_in (m := p) (c := ct) (by have := HT.out.on (lie_turn HL); rw [← HP.out] at this; exact this) hil
          obtain ⟨w2, r4, XB, HW2, HR4, HXB, S2⟩ := lay HL (.cells #[.int .u8 x.kind, .string x.name] 44)
          have CN := hide (name_any x.name w2 (kw_on HK (lie_turn S2)))
          obtain ⟨x0, x1⟩ := at2 S2 0 rfl HXB
          have HR4' := HR4
          rw [HW2.out, HR4.out] at x0 x1
          have e1 : (x.name.toList == ([] : List UInt8)) = bare0 x.name := bare_eq x.name
          have NX : Hid (midK x = (if k + 1 = p then false else true) → ∀ t (ht : t < ts.length), t < k + 1 → (t + 1 < p → midK ts[t] = true) ∧ (t + 1 = p → midK ts[t] = false)) := hide (fun hm t ht h => by
            rcases Nat.lt_or_ge t k with h2 | h2
            · exact HI.out t ht h2
            · obtain rfl : t = k := by omega
              rw [← HX.out, hm]
              exact ⟨fun h => by rw [if_neg (by omega)], fun h => by rw [if_pos h]⟩)
          have hwr : IntKind.i64.wrap ((p : Int) - 1) = (p : Int) - 1 := IntWalk.i64_in _ (by omega)
          have HMK : Hid (midK x = (decide (x.kind = 5) || decide (x.kind = 6))) := hide rfl
          generalize midK x = mk at *
          generalize x.kind = xk at *
          generalize bare0 x.name = bn at *
          generalize nameB x.name = nb at *
          clear HI
          have HWR := hide hwr
          clear hwr
          have SP : ((xk = 5 ∨ xk = 6 ∨ xk = 1 ∨ xk = 2 ∨ xk = 3 ∨ xk = 4) ∧ (bn = true ∨ bn = false)) ∨ (xk = 7 ∧ (nb = true ∨ nb = false)) ∨ (xk ≠ 5 ∧ xk ≠ 6 ∧ xk ≠ 1 ∧ xk ≠ 2 ∧ xk ≠ 3 ∧ xk ≠ 4 ∧ xk ≠ 7) := by
            have hb : bn = true ∨ bn = false := by cases bn <;> simp
            have hc : nb = true ∨ nb = false := by cases nb <;> simp
            rcases (by omega : (xk = 5 ∨ xk = 6 ∨ xk = 1 ∨ xk = 2 ∨ xk = 3 ∨ xk = 4) ∨ xk = 7 ∨ (xk ≠ 5 ∧ xk ≠ 6 ∧ xk ≠ 1 ∧ xk ≠ 2 ∧ xk ≠ 3 ∧ xk ≠ 4 ∧ xk ≠ 7)) with h | h | h
            · exact .inl ⟨h, hb⟩
            · exact .inr (.inl ⟨h, hc⟩)
            · exact .inr (.inr h)
          by_cases hla : k + 1 = p
          case' pos => have e2 : ((k : Int) == (p : Int) - 1) = true := by rw [beq_iff_eq]; omega
          case' neg => have e2 : ((k : Int) == (p : Int) - 1) = false := by rw [beq_eq_false_iff_ne]; omega
          all_goals
            have hwr := HWR.out
            rcases SP with ⟨rfl | rfl | rfl | rfl | rfl | rfl, rfl | rfl⟩ | ⟨rfl, rfl | rfl⟩ | ⟨h5, h6, h1, h2, h3, h4, h7⟩
            all_goals
              go_wp2_with (go_at_call 32; (try rw [← HW2.out]); refine CN.out.mono ?_; rintro e w3 ⟨rfl, T3⟩)
              try rw [← HW2.out]
              first
                | (go_roundw
                   case rel => exact ⟨k + 1, by omega, by go_num, by first | exact hide (S2.out.stay T3).pop | exact hide S2.out.pop, hide (NX.out (by rw [HMK.out]; simp [hla]))⟩
                   case measure => simp [intOf]; omega)
                | (go_ret
                   exact ⟨_, rfl, (fun h => absurd rfl h), by first | exact lie_turn (hide (S2.out.stay T3)) | exact lie_turn S2⟩)
        · obtain rfl : k = p := by omega
          have HWF : Hid (wfT ts = true) := hide (wf_of ts (by have := HP.out; omega) (fun t ht h => (HI.out t ht (by have := HP.out; omega)).1 (by have := HP.out; omega)) (fun t ht h => (HI.out t ht (by have := HP.out; omega)).2 (by have := HP.out; omega)))
          have S3 := lay_wrt HL
          have CS := hide (sorts_any (B := w.heap.size) (l := []) (.slice At k ct) ts 0 rfl S3 (by have := HP.out; simp; omega) (hide (fun w' l' L => by have := HT.out.on (lie_turn L); rw [← HP.out] at this; exact this)))
          go_wp2_with fail
          refine CS.out.mono ?_
          rintro e w4 ⟨rfl, S4⟩
          have CJ := hide (text_ret (B := w.heap.size) (b := wr.heap.size) (l := [] ++ ts.map sortW) 0 rfl S4 (by have := HP.out; simp; omega) (by
            refine Nat.le_trans (joinL_le 200 _ (fun x hx => ?_)) (by have := HP.out; simp; omega)
            simp at hx
            obtain ⟨y, hy, rfl⟩ := hx
            exact sortW_le (HG.out y hy)))
          clear CS S3 HI
          go_wp2_with fail
          refine CJ.out.mono ?_
          rintro e w5 ⟨rfl, T5⟩
          go_wp2_with fail
          go_ret
          exact ⟨_, rfl, (fun _ => HWF.out), (lie_turn S4).trans T5⟩
    · have hz2 : (12 : Int) < (p : Int) := by omega
      go_enter Tryz.func51, Tryz.ntmps51
      go_wp2_with fail
      go_ret
      exact ⟨_, rfl, (fun h => absurd rfl h), Turn.refl _ _⟩
end Go.Proofs.YtnljdcghaecdaaaGreatDoor
