/-
  A type's tokens; a writer's text.
-/
import Derived.Test.YtnljdcghaecdaaaGreatDoorWri
namespace Go.Proofs.YtnljdcghaecdaaaGreatDoor
open Go.RowKit Go.Lib Go.Maps
attribute [local go_sem] Oper.semAt_some

def noneS : ByteArray := ⟨#[110, 111, 110, 101]⟩
def boolS : ByteArray := ⟨#[98, 111, 111, 108]⟩
def intS : ByteArray := ⟨#[105, 110, 116]⟩
def textS : ByteArray := ⟨#[116, 101, 120, 116]⟩
def listS : ByteArray := ⟨#[108, 105, 115, 116]⟩
def optS : ByteArray := ⟨#[111, 112, 116]⟩
def sortW (x : SortD) : ByteArray := if x.kind = 1 then noneS else if x.kind = 2 then boolS else if x.kind = 3 then intS else if x.kind = 4 then textS else if x.kind = 5 then listS else if x.kind = 6 then optS else x.name
theorem set_get {α : Type} {ts : List α} {n : Nat} {t : α} (hn : ts[n]? = some t) (t' : α) : (ts.set n t')[n]? = some t' := by
  rw [List.getElem?_set_self (List.getElem?_eq_some_iff.1 hn).1]
theorem take_map {α β : Type} {f : α → β} {l : List α} {k : Nat} (hk : k < l.length) {x : α} (hx : Hid (x = l[k])) : (l.take (k + 1)).map f = (l.take k).map f ++ [f x] := by
  rw [List.take_succ_eq_append_getElem hk, List.map_append, hx.out]
  rfl
section
variable {B : Nat} {w0 w : World} {ts : List Thing} {b : Nat} {l l1 : List ByteArray} {X : Thing}
theorem pop_set {n : Nat} {a c : Thing} (h : Hid (Lie B w0 w ((X :: ts.set n a).set (n + 1) c))) : Hid (Lie B w0 w (ts.set n c)) := by
  have h1 : Lie B w0 w (X :: (ts.set n a).set n c) := h.out
  rw [List.set_set] at h1
  exact hide h1.pop
theorem sort_in {xs : List SortD} {A : Option Addr} {m c : Nat} (H : SortsAt w (.slice A m c) xs) {k : Nat} (hk : k < xs.length) :
    ∃ (x : SortD) (b o : Nat), Hid (x = xs[k]) ∧ A = some ⟨b, o, none⟩ ∧ b < w.heap.size ∧ w.cell? ⟨b, o + k * 2, none⟩ = some (.int .u8 x.kind) ∧ w.cell? ⟨b, o + k * 2 + 1, none⟩ = some (.string x.name) := by
  obtain ⟨b, o, e, hb, _, hc⟩ := sort_at (A := A) (c := c) (n := m) xs H (by omega)
  obtain ⟨d0, d1⟩ := hc k hk
  exact ⟨xs[k], b, o, hide rfl, e, hb, d0, d1⟩
set_option maxRecDepth 100000 in
set_option maxHeartbeats 4000000 in
theorem sorts_any (tv : Value) (xs : List SortD) (n : Nat) (hn : ts[n]? = some (wrt B b l)) (h : Hid (Lie B w0 w ts)) (hl : l.length + xs.length ≤ 100000) (HS : Hid (∀ (w' : World) (l' : List ByteArray), Hid (Lie B w0 w' (ts.set n (wrt B b l'))) → SortsAt w' tv xs)) :
    Calls Tryz.prog 84 #[.pointer (some ⟨b, 0, none⟩), tv] w fun e w' => e = vd ∧ Hid (Lie B w0 w' (ts.set n (wrt B b (l ++ xs.map sortW)))) := by
  have S0 : Hid (Lie B w0 w (ts.set n (wrt B b l))) := hide (by rw [set_self hn]; exact h.out)
  obtain ⟨A, c, e⟩ := (HS.out w l S0).1.shape
  subst e
  obtain ⟨m, hm⟩ : ∃ m, m = xs.length := ⟨_, rfl⟩
  have HN := hide hn
  have HM := hide hm
  rw [← hm] at hl ⊢
  clear hn h hm
  go_enter Tryz.func84, Tryz.ntmps84
  go_wp2_with fail
  go_loopw [8] (fun s8 wr => ∃ k : Nat, k ≤ m ∧ s8 = .int .i64 k ∧ Hid (Lie B w0 wr (ts.set n (wrt B b (l ++ (xs.take k).map sortW))))) (fun s8 _ => m - (intOf s8).toNat)
  case atStart => exact ⟨0, by omega, rfl, hide (by simpa using S0.out)⟩
  case round =>
    clear S0
    obtain ⟨k, hk, rfl, HL⟩ := hrel
    by_cases hlt : k < m
    · have hil : k < xs.length := by have := HM.out; omega
      obtain ⟨x, bb, o, HX, rfl, hb, k0, k1⟩ := sort_in (HS.out wr _ HL) hil
      have HT := hide (take_map (f := sortW) hil HX)
      obtain ⟨w4, r5, XB, HW4, HR4, HXB, S4⟩ := lay HL (.cells #[.int .u8 x.kind, .string x.name] 44)
      have hlen : (l ++ (xs.take k).map sortW).length + 1 ≤ 100000 := by rw [List.length_append, List.length_map, List.length_take]; have := hl; omega
      have GET := hide (set_get HN.out (wrt B b (l ++ (xs.take k).map sortW)))
      have FIN : Hid (∀ (wz : World) (z : ByteArray), sortW x = z → Hid (Lie B w0 wz ((XB :: ts.set n (wrt B b (l ++ (xs.take k).map sortW))).set (n + 1) (wrt B b ((l ++ (xs.take k).map sortW) ++ [z])))) → Hid (Lie B w0 wz (ts.set n (wrt B b (l ++ (xs.take (k + 1)).map sortW))))) := hide (fun wz z hz S => by
        have := pop_set S
        rw [HT.out, ← List.append_assoc, hz]
        exact this)
      have HSW : Hid (sortW x = if x.kind = 1 then noneS else if x.kind = 2 then boolS else if x.kind = 3 then intS else if x.kind = 4 then textS else if x.kind = 5 then listS else if x.kind = 6 then optS else x.name) := hide rfl
      obtain ⟨x0, x1⟩ := at2 S4 0 rfl HXB
      rw [HW4.out, HR4.out] at x0 x1
      generalize x.kind = xk at *
      have HSZ : Hid (w4.heap.size = wr.heap.size + 1) := hide (by rw [HW4.out]; simp)
      clear HL HT
      by_cases h1 : xk = 1
      case' pos =>
        subst h1
        have HZ : Hid (sortW x = noneS) := hide (by rw [HSW.out]; simp)
        have PUT := hide (put_new [noneS] #[.string noneS] 1 (n + 1) rfl rfl GET.out S4 hlen)
      case' neg =>
        by_cases h2 : xk = 2
        case' pos =>
          subst h2
          have HZ : Hid (sortW x = boolS) := hide (by rw [HSW.out]; simp)
          have PUT := hide (put_new [boolS] #[.string boolS] 1 (n + 1) rfl rfl GET.out S4 hlen)
        case' neg =>
          by_cases h3 : xk = 3
          case' pos =>
            subst h3
            have HZ : Hid (sortW x = intS) := hide (by rw [HSW.out]; simp)
            have PUT := hide (put_new [intS] #[.string intS] 1 (n + 1) rfl rfl GET.out S4 hlen)
          case' neg =>
            by_cases h4 : xk = 4
            case' pos =>
              subst h4
              have HZ : Hid (sortW x = textS) := hide (by rw [HSW.out]; simp)
              have PUT := hide (put_new [textS] #[.string textS] 1 (n + 1) rfl rfl GET.out S4 hlen)
            case' neg =>
              by_cases h5 : xk = 5
              case' pos =>
                subst h5
                have HZ : Hid (sortW x = listS) := hide (by rw [HSW.out]; simp)
                have PUT := hide (put_new [listS] #[.string listS] 1 (n + 1) rfl rfl GET.out S4 hlen)
              case' neg =>
                by_cases h6 : xk = 6
                case' pos =>
                  subst h6
                  have HZ : Hid (sortW x = optS) := hide (by rw [HSW.out]; simp)
                  have PUT := hide (put_new [optS] #[.string optS] 1 (n + 1) rfl rfl GET.out S4 hlen)
                case' neg =>
                  have HZ : Hid (sortW x = x.name) := hide (by rw [HSW.out]; simp [h1, h2, h3, h4, h5, h6])
                  have PUT := hide (put_new [x.name] #[.string x.name] 1 (n + 1) rfl rfl GET.out S4 hlen)
      all_goals
        go_wp2_with fail
        rw [← HW4.out]
        rw [HSZ.out] at PUT
        refine PUT.out.mono ?_
        rintro e w6 ⟨rfl, S6⟩
        have S7 := FIN.out w6 _ HZ.out S6
        clear S6 PUT FIN S4 k0 k1 x0 x1
        go_wp2_with fail
        go_roundw
        case rel => exact ⟨k + 1, by omega, by go_num, S7⟩
        case measure => simp [intOf]; omega
    · obtain rfl : k = m := by omega
      have HL2 : Hid (Lie B w0 wr (ts.set n (wrt B b (l ++ xs.map sortW)))) := hide (by have := HL.out; rw [HM.out, List.take_length] at this; exact this)
      go_wp2_with fail
      first | refine bodyPost_ret (results_none rfl _ _ _) rfl ?_ | go_end0
      exact ⟨rfl, HL2⟩
end
end Go.Proofs.YtnljdcghaecdaaaGreatDoor
