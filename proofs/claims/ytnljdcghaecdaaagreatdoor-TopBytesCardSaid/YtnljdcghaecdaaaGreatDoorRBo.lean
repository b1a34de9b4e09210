/-
  The rule of the bottoms. (Printed by mkrule.py.)
-/
import Derived.Test.YtnljdcghaecdaaaGreatDoorRDo
/-
  Which records have values.
-/
namespace Go.Proofs.YtnljdcghaecdaaaGreatDoor
open Go.RowKit Go.Lib Go.Maps
attribute [local go_sem] Oper.semAt_some

def hasB (l : List ByteArray) (ts : List SortD) : Bool := match ts with | [] => false | t :: _ => t.kind != 7 || among l t.name
def hasF (l : List ByteArray) (f : FieldD) : Bool := hasB l f.ts
def isB (l : List ByteArray) (r : RecD) : Bool := (r.choice && decide (0 < r.fs.countP (hasF l))) || (!r.choice && decide (r.fs.countP (hasF l) = r.fs.length))
def finS (l : List ByteArray) (r : RecD) : List ByteArray := if (isB l r && !among l r.name) = true then r.name :: l else l
def pass (rs : List RecD) (l : List ByteArray) : List ByteArray := rs.foldl finS l
def fin (rs : List RecD) : Nat → List ByteArray → List ByteArray
  | 0, l => l
  | n + 1, l => if (pass rs l).length = l.length then pass rs l else fin rs n (pass rs l)
def finAll (rs : List RecD) : List ByteArray := fin rs (rs.length + 1) []
def miss (rs : List RecD) (l : List ByteArray) : Nat := rs.countP fun r => !among l r.name
theorem count_lt {α : Type} {p q : α → Bool} : ∀ {l : List α}, (∀ x ∈ l, q x = true → p x = true) → (∃ x ∈ l, p x = true ∧ q x = false) → l.countP q + 1 ≤ l.countP p
  | [], _, h => by obtain ⟨x, hx, _⟩ := h; cases hx
  | y :: l, h, ⟨x, hx, hp, hq⟩ => by
    have hle : l.countP q ≤ l.countP p := List.countP_mono_left (fun z hz => h z (List.mem_cons_of_mem _ hz))
    rcases List.mem_cons.1 hx with rfl | hx2
    · rw [List.countP_cons_of_neg (by simp [hq]), List.countP_cons_of_pos hp]; omega
    · have ih := count_lt (l := l) (fun z hz => h z (List.mem_cons_of_mem _ hz)) ⟨x, hx2, hp, hq⟩
      by_cases hy : q y = true
      · rw [List.countP_cons_of_pos hy, List.countP_cons_of_pos (h y (List.mem_cons_self ..) hy)]; omega
      · rw [List.countP_cons_of_neg hy]
        by_cases hy2 : p y = true
        · rw [List.countP_cons_of_pos hy2]; omega
        · rw [List.countP_cons_of_neg hy2]; omega
theorem among_cons (x s : ByteArray) (l : List ByteArray) : among (x :: l) s = (decide (x = s) || among l s) := rfl
theorem miss_less {rs : List RecD} {l : List ByteArray} {r : RecD} (hr : r ∈ rs) (h : among l r.name = false) : miss rs (r.name :: l) + 1 ≤ miss rs l := by
  refine count_lt (fun x _ hx => ?_) ⟨r, hr, by rw [h]; rfl, by rw [among_cons]; simp⟩
  rw [among_cons] at hx
  revert hx
  cases among l x.name <;> simp
/-- What a pass keeps. -/
structure Kept (rs : List RecD) (l0 l : List ByteArray) : Prop where
  le : l0.length ≤ l.length
  sum : l.length + miss rs l ≤ l0.length + miss rs l0
theorem kept_refl (rs : List RecD) (l : List ByteArray) : Kept rs l l := ⟨Nat.le_refl _, Nat.le_refl _⟩
theorem kept_step {rs : List RecD} {l0 l : List ByteArray} {r : RecD} (h : Kept rs l0 l) (hr : r ∈ rs) : Kept rs l0 (finS l r) := by
  unfold finS
  split
  · rename_i hc
    have ha : among l r.name = false := by
      revert hc
      cases among l r.name <;> simp
    have := miss_less hr ha
    exact ⟨by have := h.le; simp; omega, by have := h.sum; simp; omega⟩
  · exact h
theorem pass_take {rs : List RecD} {l : List ByteArray} {k : Nat} (hk : k < rs.length) {x : RecD} (hx : Hid (x = rs[k])) : pass (rs.take (k + 1)) l = finS (pass (rs.take k) l) x := by
  unfold pass
  rw [List.take_succ_eq_append_getElem hk, List.foldl_append, hx.out]
  rfl
theorem fin_more {rs : List RecD} {n : Nat} {l : List ByteArray} (h : (pass rs l).length ≠ l.length) : fin rs (n + 1) l = fin rs n (pass rs l) := by
  rw [fin, if_neg h]
theorem fin_end {rs : List RecD} {n : Nat} {l : List ByteArray} (h : (pass rs l).length = l.length) : fin rs (n + 1) l = pass rs l := by
  rw [fin, if_pos h]
def setv (l : List ByteArray) : ByteArray → Value := fun s => .int .i64 (if among l s = true then 1 else 0)
/-- A set of texts in a map. -/
abbrev fset (b : Nat) (l : List ByteArray) : Thing := mpt b l.length (.int .i64 0) (setv l)
theorem setv_upd (l : List ByteArray) (x : ByteArray) : upd (setv l) x (.int .i64 1) = setv (x :: l) := by
  funext t
  unfold upd setv
  by_cases e : t = x
  · subst e; simp [among_cons]
  · have e2 : ¬ x = t := fun h => e h.symm
    simp [among_cons, e, e2]
section
variable {B : Nat} {w0 w : World} {ts : List Thing} {mb : Nat} {l : List ByteArray}
theorem fset_drew {d : Nat} (h : (fset mb l).is w) : (fset mb l).is (w.drewN d) := ((fset mb l).stay h (fun _ _ => rfl)).1
theorem fset_look (h : (fset mb l).is w) (s : ByteArray) (hs : s.size ≤ 100000) : (Instr.lookup 156 (.map (some mb)) (.string s) false).run Tryz.prog w = .ok (.int .i64 (if among l s = true then 1 else 0)) w :=
  mpt_look h Tryz.underlying156 (zero3 w) s (by unfold maxLen; omega)
theorem lay_set (h : Hid (Lie B w0 w ts)) : ∃ (w2 : World) (m : Nat), Hid (w2 = w.alloc (.map #[] 0)) ∧ Hid (m = w.heap.size) ∧ Hid (Lie B w0 w2 (fset m [] :: ts)) :=
  ⟨_, _, hide rfl, hide rfl, hide (h.out.push ((Turn.refl _ w).alloc _) (mpt_made w (.int .i64 0)) (fun _ hk => Nat.le_of_eq hk.symm))⟩
set_option maxRecDepth 100000 in
theorem has_any (tv : Value) (xs : List SortD) (hx : SortsAt w tv xs) (hg : ∀ x ∈ xs, x.name.size ≤ 100000) (hn : xs.length ≤ 1000) (m3 : Nat) (MB : Thing) (i n : Nat) (hi : ts[i]? = some MB) (HMB : Hid (MB = box m3 (.cells #[.map (some mb)] 156 (0, 0)))) (hn2 : ts[n]? = some (fset mb l)) (L : Hid (Lie B w0 w ts)) :
    Calls Tryz.prog 114 #[tv, .pointer (some ⟨m3, 0, none⟩)] w fun e w' => e = .returned (.bool (hasB l xs)) ∧ Turn (fun _ => False) w w' := by
  obtain ⟨A, c, rfl⟩ := hx.1.shape
  have c0 := at1 L i hi HMB
  have HFS := L.out.get n hn2
  cases xs with
  | nil =>
    have HB : Hid (hasB l [] = false) := hide rfl
    clear hx hg HFS hi hn2
    go_enter Tryz.func114, Tryz.ntmps114
    go_wp2_with fail
    go_quiet (fail)
    go_wp2_with fail
    go_ret
    exact ⟨by rw [HB.out]; rfl, (Turn.refl _ _).drewN _⟩
  | cons x xs =>
    obtain ⟨b, o, rfl, hb, hnn, hc⟩ := sort_at (x :: xs) hx (by simp)
    obtain ⟨k0, k1⟩ := hc 0 (by simp)
    simp only [List.getElem_cons_zero, Nat.zero_mul, Nat.add_zero] at k0 k1
    have hlen : (0 : Int) < ((x :: xs).length : Nat)   := by simp only [List.length_cons]; omega
    have hlen2 : 0 < (x :: xs).length := by simp
    have HL := hide (fun d => fset_look (fset_drew (d := d) HFS) x.name (hg x (by simp)))
    by_cases h7 : x.kind = 7
    · have HB : Hid (hasB l (x :: xs) = among l x.name) := hide (by unfold hasB; simp [h7])
      clear hx hg HFS hi hn2 hc hnn
      generalize hasB l (x :: xs) = hb0 at *
      generalize (x :: xs).length = nn at *
      rw [h7] at k0
      clear h7
      have kl := HL.out
      have H1 : Hid (∀ q : Bool, decide ((0 : Int) < if q = true then 1 else 0) = q) := hide (fun q => by cases q <;> rfl)
      generalize among l x.name = am at *
      cases am
      all_goals
        simp only [if_true, Bool.false_eq_true, if_false] at kl
        go_enter Tryz.func114, Tryz.ntmps114
        go_wp2_with fail
        go_quiet (fail)
        go_wp2_with fail
        go_ret
        exact ⟨by rw [HB.out]; rfl, (Turn.refl _ _).drewN _⟩
    · have HB : Hid (hasB l (x :: xs) = true) := hide (by unfold hasB; simp [h7])
      have e7 : (x.kind == 7) = false := beq_eq_false_iff_ne.2 h7
      have e7' : (x.kind != 7) = true := by simp [h7]
      clear hx hg HFS hi hn2 hc hnn
      generalize hasB l (x :: xs) = hb0 at *
      generalize (x :: xs).length = nn at *
      go_enter Tryz.func114, Tryz.ntmps114
      go_wp2_with fail
      go_quiet (fail)
      go_wp2_with fail
      go_ret
      exact ⟨by rw [HB.out]; rfl, (Turn.refl _ _).drewN _⟩
end
end Go.Proofs.YtnljdcghaecdaaaGreatDoor
/-
  The records that have values: the walk.
-/
namespace Go.Proofs.YtnljdcghaecdaaaGreatDoor
open Go.RowKit Go.Lib Go.Maps
attribute [local go_sem] Oper.semAt_some

def FinTo (F : List ByteArray) (w : World) (e : Ending) (w' : World) : Prop := ∃ mb : Nat, e = .returned (.map (some mb)) ∧ Hid (Lie w.heap.size w w' [fset mb F])
theorem pass_all {rs : List RecD} {l : List ByteArray} : pass (rs.take rs.length) l = pass rs l := by rw [List.take_length]
theorem count_take {α : Type} {p : α → Bool} {l : List α} {k : Nat} (hk : k < l.length) {x : α} (hx : Hid (x = l[k])) : (l.take (k + 1)).countP p = (l.take k).countP p + if p x = true then 1 else 0 := by
  rw [List.take_succ_eq_append_getElem hk, List.countP_append, hx.out]
  simp [List.countP_cons]
set_option maxRecDepth 100000 in
set_option maxHeartbeats 16000000 in
theorem finite_any (s : SchD) (w : World) (h : SchAt w s) (g : GSch s) : Calls Tryz.prog 102 #[schv s] w (FinTo (finAll s.rs) w) := by
  obtain ⟨Ar, nr, cr, Av, nv, cv, Ag, ng, cg, ev, HSR, HSV, HSG, HGR, HGV, HGG, hnr, hnv, hng⟩ := sch_in s h g
  rw [ev]
  obtain ⟨w1, r, SB, HW, HR, HSB, S1⟩ := lay (hide (Lie.start w)) (.cells #[.string s.name, .slice Ar nr cr, .slice Av nv cv, .slice Ag ng cg] 26)
  obtain ⟨w2, mb, HW2, HR2, S2⟩ := lay_set S1
  obtain ⟨w3, m3, MB, HW3, HR3, HMB, S3⟩ := lay S2 (.cells #[.map (some mb)] 156)
  have HRB : Hid (mb = r + 1) := hide (by rw [HR2.out, HW.out, HR.out]; simp)
  have HRC : Hid (m3 = mb + 1) := hide (by rw [HR3.out, HW2.out, HR2.out]; simp)
  have HF0 : Hid (fin s.rs (s.rs.length + 1) [] = finAll s.rs) := hide rfl
  have HM0 : Hid (miss s.rs [] + 1 ≤ s.rs.length + 1) := hide (Nat.succ_le_succ (List.countP_le_length ..))
  have HNR := hide (recs_len HSR)
  generalize finAll s.rs = F at *
  clear h g ev
  have hmm := @run_makeMap Tryz.prog
  go_enter Tryz.func102, Tryz.ntmps102
  go_upto_region 3 with (fail)
  rw [← HW.out, ← HW2.out, ← HR.out, ← HRB.out, ← HRC.out, ← HW3.out]
  go_wp2_with fail
  go_loopg [5] (s.rs.length + 1) (fun g s5 wr => ∃ (l : List ByteArray) (again : Bool) (n : Nat), s5 = .bool again ∧ n ≤ g ∧ Hid (again = true → miss s.rs l + 1 ≤ n ∧ fin s.rs n l = F) ∧ Hid (again = false → l = F) ∧ l.length ≤ 100 ∧ Hid (l.length + miss s.rs l ≤ s.rs.length) ∧ Hid (Lie w.heap.size w wr [MB, fset mb l, SB]))
  case atStart => exact ⟨[], true, s.rs.length + 1, rfl, Nat.le_refl _, hide (fun _ => ⟨HM0.out, HF0.out⟩), hide (fun e => by cases e), by simp, hide (by have := HM0.out; simp; omega), S3⟩
  case round =>
    clear S3 S1 S2 HW HW2 HW3
    obtain ⟨l, again, n, rfl, hng2, HA1, HA0, hl, HSM, HL⟩ := hrel
    cases again with
    | false =>
      have HLF := hide (HA0.out rfl)
      have c0 := at1 HL 0 rfl HMB
      go_wp2_with fail
      go_ret
      exact ⟨mb, rfl, hide (by rw [← HLF.out]; exact HL.out.pop.erase 1)⟩
    | true =>
      have HA := hide (HA1.out rfl)
      obtain ⟨z0, z1, z2, z3⟩ := at4 HL 2 rfl HSB
      clear HA1 HA0
      go_wp2_with fail
      clear z0 z1 z2 z3
      go_loopw [18, 5] (fun s18 s5 wr => ∃ (k : Nat) (a : Bool) (lk : List ByteArray), k ≤ nr ∧ s18 = .int .i64 k ∧ s5 = .bool a ∧ Hid (a = decide (lk.length ≠ l.length)) ∧ Hid (Kept s.rs l lk) ∧ Hid (lk = pass (s.rs.take k) l) ∧ Hid (Lie w.heap.size w wr [MB, fset mb lk, SB])) (fun s18 _ _ => nr - (intOf s18).toNat)
      case atStart => exact ⟨0, false, l, by omega, rfl, rfl, hide (by simp), hide (kept_refl _ _), hide (by simp [pass]), HL⟩
      case round =>
        clear HL
        obtain ⟨k, a, lk, hk, rfl, rfl, HAA, HK, HPS, HL⟩ := hrel
        by_cases hlt : k < nr
        · have hil : k < s.rs.length := by have := recs_len HSR; omega
          obtain ⟨x, b, o, Am, m, cm, HX, rfl, hb, d0, d1, d2, HFA, HGF, hx2, hm4⟩ := rec_in HSR HGR (lie_turn HL) hil
          have hlk : lk.length ≤ 200 := by have := HK.out.sum; have := HSM.out; have := HNR.out; omega
          have HPN := hide (pass_take (l := l) hil HX)
          rw [← HPS.out] at HPN
          have HKN := hide (kept_step (r := x) HK.out (by rw [HX.out]; exact List.getElem_mem hil))
          have HFS : Hid (finS lk x = if (isB lk x && !among lk x.name) = true then x.name :: lk else lk) := hide rfl
          have HIS : Hid (isB lk x = ((x.choice && decide (0 < x.fs.countP (hasF lk))) || (!x.choice && decide (x.fs.countP (hasF lk) = x.fs.length)))) := hide rfl
          obtain ⟨w4, rx, RB, HW4, HR4, HRB2, S4⟩ := lay HL (.cells #[.string x.name, .bool x.choice, .slice Am m cm] 61)
          go_wp2_with fail
          rw [← HW4.out, ← HR4.out]
          clear d0 d1 d2
          go_loopw [25, 8] (fun s25 s8 wr => ∃ (j c : Nat), j ≤ m ∧ s25 = .int .i64 j ∧ s8 = .int .i64 c ∧ c ≤ j ∧ Hid (c = (x.fs.take j).countP (hasF lk)) ∧ Hid (Lie w.heap.size w wr [RB, MB, fset mb lk, SB])) (fun s25 _ _ => m - (intOf s25).toNat)
          case atStart => exact ⟨0, 0, by omega, rfl, rfl, by omega, hide (by simp), S4⟩
          case round =>
            clear S4 HW4 HL
            obtain ⟨j, c, hj, rfl, rfl, hcj, HC, HL⟩ := hrel
            by_cases hlj : j < m
            · have hjl : j < x.fs.length := by have := fields_len HFA; omega
              obtain ⟨y, b', o', At, mt, ct, HY, rfl, hb', g0, g1, HTA, hy2, hyl⟩ := field_in HFA HGF (lie_turn HL) hjl
              have hgs := (HGF.out y (HY.out ▸ List.getElem_mem hjl)).2.2
              have HCN := hide (count_take (p := hasF lk) hjl HY)
              rw [← HC.out] at HCN
              have HHF : Hid (hasF lk y = hasB lk y.ts) := hide rfl
              obtain ⟨w5, ry, FB, HW5, HR5, HFB, S5⟩ := lay HL (.cells #[.string y.name, .slice At mt ct] 63)
              have CH := hide (has_any (l := lk) (mb := mb) (.slice At mt ct) y.ts (HTA.out.on (lie_turn S5)) (fun t ht => Nat.le_trans (hgs t ht) (by omega)) (by omega) m3 MB 2 3 rfl HMB rfl S5)
              clear hgs
              go_wp2_with fail
              rw [← HW5.out]
              refine CH.out.mono ?_
              rintro e w6 ⟨rfl, T6⟩
              have S6 := hide (S5.out.stay T6)
              rw [← HHF.out]
              clear CH S5 T6 g0 g1
              generalize hasF lk y = hh at *
              cases hh
              all_goals
                simp only [if_true, Bool.false_eq_true, if_false] at HCN
                go_wp2_with fail
                go_roundw
                case rel => exact ⟨j + 1, _, by omega, by go_num, by first | rfl | go_num, by omega, hide HCN.out.symm, hide S6.out.pop⟩
                case measure => simp [intOf]; omega
            · obtain rfl : j = m := by omega
              have HCF : Hid (x.fs.countP (hasF lk) = c) := hide (by rw [HC.out, fields_len HFA, List.take_length])
              have HI2 : Hid (isB lk x = ((x.choice && decide (0 < c)) || (!x.choice && decide (c = j)))) := hide (by rw [HIS.out, HCF.out, ← fields_len HFA])
              have kl := fset_look (HL.out.get 2 rfl) x.name (by omega)
              obtain ⟨w7, ks, his, T7⟩ := mpt_store (HL.out.get 2 rfl) Tryz.underlying156 x.name (.int .i64 1) (by unfold maxLen; omega) (by unfold maxLen; omega)
              rw [setv_upd] at his
              have S7 := hide (HL.out.step (t' := fset mb (x.name :: lk)) 2 rfl T7 his (fun k hk => .inl hk))
              have S7 : Hid (Lie w.heap.size w w7 [RB, MB, fset mb (x.name :: lk), SB]) := S7
              obtain ⟨x0, x1, x2⟩ := at3 HL 0 rfl HRB2
              have m0 := at1 HL 1 rfl HMB
              have HKS := hide ks
              have HLE := hide HK.out.le
              clear his T7 ks HC HCF HIS
              generalize hch : x.choice = ch at *
              generalize ham : among lk x.name = am at *
              generalize hib : isB lk x = ib at *
              clear hch ham hib
              have SP : (ch = true ∧ 0 < c ∧ ib = true) ∨ (ch = true ∧ c = 0 ∧ ib = false) ∨ (ch = false ∧ c = j ∧ ib = true) ∨ (ch = false ∧ c ≠ j ∧ ib = false) := by
                have := HI2.out
                cases ch with
                | true =>
                  by_cases h0 : 0 < c
                  · exact .inl ⟨rfl, h0, by rw [this]; simp [h0]⟩
                  · exact .inr (.inl ⟨rfl, by omega, by rw [this]; simp; omega⟩)
                | false =>
                  by_cases h0 : c = j
                  · exact .inr (.inr (.inl ⟨rfl, h0, by rw [this]; simp [h0]⟩))
                  · exact .inr (.inr (.inr ⟨rfl, h0, by rw [this]; simp [h0]⟩))
              clear HI2
              rcases SP with ⟨rfl, hc0, rfl⟩ | ⟨rfl, rfl, rfl⟩ | ⟨rfl, rfl, rfl⟩ | ⟨rfl, hc0, rfl⟩
              case' inl =>
                have hcI : (0 : Int) < (c : Int) := by omega
                cases am
              case' inr.inr.inl => cases am
              case' inr.inr.inr => have hcI : ((c : Int) == (j : Int)) = false := by rw [beq_eq_false_iff_ne]; omega
              all_goals
                simp only [if_true, Bool.false_eq_true, if_false, Bool.not_false, Bool.not_true, Bool.and_true, Bool.and_false, Bool.false_and] at kl HFS
                have ks := HKS.out
                go_wp2_with fail
                go_roundw
                case rel =>
                  rw [HFS.out] at HPN HKN
                  first
                    | exact ⟨k + 1, a, lk, by omega, by go_num, rfl, HAA, HKN, hide HPN.out.symm, hide HL.out.pop⟩
                    | exact ⟨k + 1, true, x.name :: lk, by omega, by go_num, rfl, hide (by have := HLE.out; rw [eq_comm, decide_eq_true_eq]; simp; omega), HKN, hide HPN.out.symm, hide S7.out.pop⟩
                case measure => simp [intOf]; omega
        · obtain rfl : k = nr := by omega
          have HPA : Hid (lk = pass s.rs l) := hide (by rw [HPS.out, HNR.out, pass_all])
          have hn1 : 1 ≤ n := by have := HA.out.1; omega
          have hlk : lk.length ≤ 100 := by have := HK.out.sum; have := HSM.out; have := HNR.out; omega
          go_wp2_with fail
          go_roundg (n - 1)
          case rel =>
            refine ⟨lk, a, n - 1, rfl, Nat.le_refl _, hide (fun ha => ?_), hide (fun ha => ?_), hlk, hide (by have := HK.out.sum; have := HSM.out; omega), HL⟩
            · have hne : lk.length ≠ l.length := by have := HAA.out; rw [ha] at this; exact of_decide_eq_true this.symm
              have h1 := HK.out.sum
              have h2 := HK.out.le
              have h3 := HA.out.1
              refine ⟨by omega, ?_⟩
              have h4 := HA.out.2
              obtain ⟨q, rfl⟩ : ∃ q, n = q + 1 := ⟨n - 1, by omega⟩
              rw [fin_more (by rw [← HPA.out]; exact hne), ← HPA.out] at h4
              exact h4
            · have hne : lk.length = l.length := by
                have := HAA.out
                rw [ha] at this
                have := of_decide_eq_false this.symm
                omega
              have h4 := HA.out.2
              obtain ⟨q, rfl⟩ : ∃ q, n = q + 1 := ⟨n - 1, by omega⟩
              rw [fin_end (by rw [← HPA.out]; exact hne), ← HPA.out] at h4
              exact h4
          case measure => omega
end Go.Proofs.YtnljdcghaecdaaaGreatDoor
namespace Go.Proofs.YtnljdcghaecdaaaGreatDoor
open Go.RowKit Go.Lib Go.Maps
attribute [local go_sem] Oper.semAt_some

def bottomsB (s : SchD) : Bool := s.rs.all fun x => among (finAll s.rs) x.name
section
variable {W w : World} {fb : Nat} {ok : Bool} {ts : List Thing}
set_option maxRecDepth 100000 in
set_option maxHeartbeats 8000000 in
theorem bottoms_any (s : SchD) (h : SchAt W s) (g : GSch s) (L : Lie W.heap.size W w (flt fb ok :: ts)) : Calls Tryz.prog 78 #[schv s, .pointer (some ⟨fb, 0, none⟩)] w (RuleTo W fb ts (ok && bottomsB s)) := by
  obtain ⟨Ar, nr, cr, Av, nv, cv, Ag, ng, cg, ev, HSR, HSV, HSG, HGR, HGV, HGG, hnr, hnv, hng⟩ := sch_in s h g
  have CF := hide (fun (w' : World) (t : Turn (fun _ => False) W w') => finite_any s w' (h.on t) g)
  rw [ev] at CF ⊢
  obtain ⟨w1, r, SB, HW, HR, HSB, S1⟩ := lay (hide L) (.cells #[.string s.name, .slice Ar nr cr, .slice Av nv cv, .slice Ag ng cg] 26)
  have HO : Hid (bottomsB s = (s.rs.all fun x => among (finAll s.rs) x.name)) := hide rfl
  generalize bottomsB s = tB at *
  clear L h g ev
  obtain ⟨z0, z1, z2, z3⟩ := at4 S1 0 rfl HSB
  have C1 := hide (CF.out w1 (lie_turn S1))
  generalize finAll s.rs = F at *
  rw [HW.out] at z0 z1 z2 z3
  go_enter Tryz.func78, Tryz.ntmps78
  go_wp2_with fail
  rw [← HW.out, ← HR.out]
  refine C1.out.mono ?_
  rintro e w2 ⟨mb, rfl, HF⟩
  have S0 : Hid (Lie W.heap.size W w2 (fset mb F :: SB :: flt fb ok :: ts)) := hide (S1.out.push (turn_of HF.out) (HF.out.get 0 rfl) (fun k hk => HF.out.high 0 _ rfl k hk))
  clear z0 z1 z2 z3 C1 HF CF
  obtain ⟨z0, z1, z2, z3⟩ := at4 S0 1 rfl HSB
  go_wp2_with fail
  clear z0 z1 z2 z3
  go_loopw [12] (fun sA wr => ∃ (k : Nat) (p : Bool), k ≤ nr ∧ sA = .int .i64 k ∧ Hid (p = (ok && (s.rs.take k).all (fun x => among F x.name))) ∧ Hid (Lie W.heap.size W wr (fset mb F :: SB :: flt fb p :: ts))) (fun sA _ => nr - (intOf sA).toNat)
  case atStart => exact ⟨0, ok, by omega, rfl, start_all _ _ _, S0⟩
  case round =>
    clear S0 S1 HW
    obtain ⟨k0, q0, hk0, rfl, HP, HL⟩ := hrel
    by_cases hlt0 : k0 < nr
    · skip
      have hil : k0 < s.rs.length := by have := recs_len HSR; omega
      obtain ⟨x, b, o, Am, m, cm, HX, rfl, hb, d0, d1, d2, HFA, HGF, hx2, hm4⟩ := rec_in HSR HGR (lie_turn HL) hil
      obtain ⟨w2, rx, RB, HW2, HR2, HRB, S2⟩ := lay HL (.cells #[.string x.name, .bool x.choice, .slice Am m cm] 61)
      go_upto_region 5 with (fail)
      rw [← HW2.out, ← HR2.out]
      clear d0 d1 d2
      obtain ⟨x0, x1, x2⟩ := at3 S2 0 rfl HRB
      obtain ⟨z0, z1, z2, z3⟩ := at4 S2 2 rfl HSB
      have kl := fset_look (S2.out.get 1 rfl) x.name (by omega)
      have HAM : Hid (∀ q : Bool, decide ((0 : Int) < if q = true then 1 else 0) = q) := hide (fun q => by cases q <;> rfl)
      generalize ham : among F x.name = am at *
      have HAM2 := hide ham
      clear ham
      cases am
      all_goals
        simp only [if_true, Bool.false_eq_true, if_false] at kl
        go_wp2_with fail
        refine (at_any _ _ _ (by unfold BadE; decide) 3 rfl S2.out).mono ?_
        rintro e w7 ⟨rfl, S3⟩
        have S3 : Hid (Lie W.heap.size W w7 (RB :: fset mb F :: SB :: flt fb (q0 && among F x.name) :: ts)) := by rw [HAM2.out]; exact S3
        clear x0 x1 x2 z0 z1 z2 z3
      all_goals
        have NQ : Hid (_ = _) := more_all HP hil HX (rfl)
        go_wp2_with fail
        go_roundw
        case rel => exact ⟨k0 + 1, _, by omega, by go_num, NQ, hide (S3.out.erase 0)⟩
        case measure => simp [intOf]; omega
    · obtain rfl : k0 = nr := by omega
      have HE0 := end_all HP (recs_len HSR)
      clear HP
      go_wp2_with fail
      first | refine bodyPost_ret (results_none rfl _ _ _) rfl ?_ | go_end0
      exact rule_to rfl (hide HL.out.pop.pop) (by rw [HE0.out, HO.out])
end
end Go.Proofs.YtnljdcghaecdaaaGreatDoor
