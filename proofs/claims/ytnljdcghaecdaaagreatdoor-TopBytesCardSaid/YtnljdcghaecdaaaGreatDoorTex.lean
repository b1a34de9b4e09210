/-
  A schema's text, its print.
-/
import Derived.Test.YtnljdcghaecdaaaGreatDoorTxt
import Derived.Test.YtnljdcghaecdaaaGreatDoorCheck
import Derived.Test.YtnljdcghaecdaaaGreatDoorTyp
/-
  Records, services, sagas put as tokens.
-/
namespace Go.Proofs.YtnljdcghaecdaaaGreatDoor
open Go.RowKit Go.Lib Go.Maps
attribute [local go_sem] Oper.semAt_some

def recordS : ByteArray := ⟨#[114, 101, 99, 111, 114, 100]⟩
def choiceS : ByteArray := ⟨#[99, 104, 111, 105, 99, 101]⟩
def ocS : ByteArray := ⟨#[123]⟩
def ccS : ByteArray := ⟨#[125]⟩
def colS : ByteArray := ⟨#[58]⟩
def semiS : ByteArray := ⟨#[59]⟩
def opS : ByteArray := ⟨#[40]⟩
def cpS : ByteArray := ⟨#[41]⟩
def arrS : ByteArray := ⟨#[45, 62]⟩
def serviceS : ByteArray := ⟨#[115, 101, 114, 118, 105, 99, 101]⟩
def undoS : ByteArray := ⟨#[117, 110, 100, 111]⟩
def sagaS : ByteArray := ⟨#[115, 97, 103, 97]⟩
def doS : ByteArray := ⟨#[100, 111]⟩
def atS : ByteArray := ⟨#[97, 116]⟩
def fieldT (f : FieldD) : List ByteArray := [f.name, colS] ++ f.ts.map sortW ++ [semiS]
def recT (r : RecD) : List ByteArray := [if r.choice = true then choiceS else recordS, r.name, ocS] ++ r.fs.flatMap fieldT ++ [ccS]
theorem take_flat {α β : Type} {f : α → List β} {l : List α} {k : Nat} (hk : k < l.length) {x : α} (hx : Hid (x = l[k])) : (l.take (k + 1)).flatMap f = (l.take k).flatMap f ++ f x := by
  rw [List.take_succ_eq_append_getElem hk, List.flatMap_append, hx.out]
  simp
theorem flat_le {α β : Type} {f : α → List β} {l : List α} {k : Nat} : ((l.take k).flatMap f).length ≤ (l.flatMap f).length := by
  have : (l.flatMap f).length = ((l.take k).flatMap f).length + ((l.drop k).flatMap f).length := by
    rw [← List.length_append, ← List.flatMap_append, List.take_append_drop]
  omega
theorem flat_le1 {α β : Type} {f : α → List β} {l : List α} {k : Nat} (hk : k < l.length) {x : α} (hx : Hid (x = l[k])) : ((l.take k).flatMap f).length + (f x).length ≤ (l.flatMap f).length := by
  have h1 := flat_le (f := f) (l := l) (k := k + 1)
  rw [take_flat hk hx, List.length_append] at h1
  exact h1
theorem keep1 {B : Nat} {w0 w : World} {X : Thing} {ts : List Thing} {n : Nat} {a c : Thing} (h : Hid (Lie B w0 w ((X :: ts.set n a).set (n + 1) c))) : Hid (Lie B w0 w (X :: ts.set n c)) := by
  have h1 : Lie B w0 w (X :: (ts.set n a).set n c) := h.out
  rw [List.set_set] at h1
  exact hide h1
theorem keep2 {B : Nat} {w0 w : World} {X Y : Thing} {ts : List Thing} {n : Nat} {a c : Thing} (h : Hid (Lie B w0 w ((X :: Y :: ts.set n a).set (n + 2) c))) : Hid (Lie B w0 w (X :: Y :: ts.set n c)) := by
  have h1 : Lie B w0 w (X :: Y :: (ts.set n a).set n c) := h.out
  rw [List.set_set] at h1
  exact hide h1
section
variable {W w : World} {ts : List Thing} {b : Nat} {l : List ByteArray}
set_option maxRecDepth 100000 in
set_option maxHeartbeats 4000000 in
theorem record_any (rc : RecD) (hf : Hid (FieldsAt W rc.fv rc.fs)) (hg : Hid (∀ f ∈ rc.fs, GField f)) (hfm : rc.fs.length ≤ 1000) (n : Nat) (hn : ts[n]? = some (wrt W.heap.size b l)) (h : Hid (Lie W.heap.size W w ts)) (hl : l.length + (recT rc).length ≤ 90000) :
    Calls Tryz.prog 47 #[.pointer (some ⟨b, 0, none⟩), recv rc] w fun e w' => e = vd ∧ Hid (Lie W.heap.size W w' (ts.set n (wrt W.heap.size b (l ++ recT rc)))) := by
  obtain ⟨A, c, efv⟩ := hf.out.1.shape
  rw [efv] at hf
  unfold recv
  rw [efv]
  obtain ⟨m, hm⟩ : ∃ m, m = rc.fs.length := ⟨_, rfl⟩
  rw [← hm] at hf hfm ⊢
  have HM := hide hm
  have HN := hide hn
  obtain ⟨ch, hch⟩ : ∃ ch, ch = rc.choice := ⟨_, rfl⟩
  have HRT : Hid (recT rc = [if ch = true then choiceS else recordS, rc.name, ocS] ++ rc.fs.flatMap fieldT ++ [ccS]) := hide (by rw [hch]; rfl)
  rw [← hch]
  have hlen : (recT rc).length = (rc.fs.flatMap fieldT).length + 4 := by rw [HRT.out]; simp
  rw [hlen] at hl
  obtain ⟨w2, r3, TB, HW2, HR2, HTB, S2⟩ := lay h (.cells #[.string rc.name, .bool ch, .slice A m c] 61)
  obtain ⟨t0, t1, t2⟩ := at3 S2 0 rfl HTB
  have HSZ : Hid (w2.heap.size = w.heap.size + 1) := hide (by rw [HW2.out]; simp)
  have PUT := hide (put_new [if ch = true then choiceS else recordS, rc.name, ocS] #[.string (if ch = true then choiceS else recordS), .string rc.name, .string ocS] 3 (n + 1) rfl rfl hn S2 (by simp; omega))
  rw [HSZ.out] at PUT
  rw [HW2.out, HR2.out] at t0 t1 t2
  clear efv hm hch hn hlen
  have REST : ∀ (wz : World), Hid (Lie W.heap.size W wz ((TB :: ts).set (n + 1) (wrt W.heap.size b (l ++ [if ch = true then choiceS else recordS, rc.name, ocS])))) → True := fun _ _ => trivial
  clear REST
  cases ch
  all_goals
    simp only [if_true, Bool.false_eq_true, if_false] at PUT HRT
    go_enter Tryz.func47, Tryz.ntmps47
    go_wp2_with fail
    rw [← HW2.out]
    refine PUT.out.mono ?_
    rintro e w3 ⟨rfl, S3⟩
    clear PUT t0 t1 t2
    have GT : Hid (∀ a : Thing, (ts.set n a)[n]? = some a) := hide (fun a => set_get HN.out a)
    generalize hl0 : l ++ [_, rc.name, ocS] = l0 at S3
    have HL0 := hide hl0
    have hll : l0.length = l.length + 3 := by rw [← hl0]; simp
    have S3 : Hid (Lie W.heap.size W w3 (TB :: ts.set n (wrt W.heap.size b l0))) := S3
    obtain ⟨t0, t1, t2⟩ := at3 S3 0 rfl HTB
    rw [HR2.out] at t0 t1 t2
    clear hl0
    go_wp2_with fail
    clear t0 t1 t2
    go_loopw [18] (fun s18 wr => ∃ k : Nat, k ≤ m ∧ s18 = .int .i64 k ∧ Hid (Lie W.heap.size W wr (TB :: ts.set n (wrt W.heap.size b (l0 ++ (rc.fs.take k).flatMap fieldT))))) (fun s18 _ => m - (intOf s18).toNat)
    case atStart => exact ⟨0, by omega, rfl, hide (by simpa using S3.out)⟩
    case round =>
      clear S3
      obtain ⟨k, hk, rfl, HL⟩ := hrel
      by_cases hlt : k < m
      · have hil : k < rc.fs.length := by have := HM.out; omega
        obtain ⟨y, b', o', At, mt, ct, HY, rfl, hb', g0, g1, HTA, hy2, hyl⟩ := field_in hf hg (turn_of HL.out) hil
        have HTF := hide (take_flat (f := fieldT) hil HY)
        have hfl := flat_le1 (f := fieldT) hil HY
        have hfy : (fieldT y).length = y.ts.length + 3 := by unfold fieldT; simp
        have HFT : Hid (fieldT y = [y.name, colS] ++ y.ts.map sortW ++ [semiS]) := hide rfl
        have hkl : (l0 ++ (rc.fs.take k).flatMap fieldT).length + y.ts.length + 3 ≤ 90000 := by rw [List.length_append]; omega
        generalize hlk : l0 ++ (rc.fs.take k).flatMap fieldT = lk at *
        have HLK := hide hlk
        obtain ⟨w4, rx, FB, HW4, HR4, HFB, S4⟩ := lay HL (.cells #[.string y.name, .slice At mt ct] 63)
        have HSZ4 : Hid (w4.heap.size = wr.heap.size + 1) := hide (by rw [HW4.out]; simp)
        obtain ⟨f0, f1⟩ := at2 S4 0 rfl HFB
        rw [HW4.out, HR4.out] at f0 f1
        have PUT := hide (put_new [y.name, colS] #[.string y.name, .string colS] 2 (n + 2) rfl rfl (GT.out _) S4 (by simp; omega))
        rw [HSZ4.out] at PUT
        clear hlk hfl hfy
        go_wp2_with fail
        rw [← HW4.out]
        refine PUT.out.mono ?_
        rintro e w5 ⟨rfl, S5⟩
        have S5 := keep2 S5
        clear PUT f0 f1 S4
        obtain ⟨f0, f1⟩ := at2 S5 0 rfl HFB
        rw [HR4.out] at f0 f1
        have CS := hide (sorts_any (w0 := W) (.slice At mt ct) y.ts (n + 2) (GT.out _) S5 (by simp; omega) (hide (fun w' l' L => HTA.out.on (turn_of L.out))))
        go_wp2_with fail
        refine CS.out.mono ?_
        rintro e w6 ⟨rfl, S6⟩
        have S6 := keep2 S6
        have PUT2 := hide (put_new [semiS] #[.string semiS] 1 (n + 2) rfl rfl (GT.out _) S6 (by simp; omega))
        clear CS S5 f0 f1
        go_wp2_with fail
        refine PUT2.out.mono ?_
        rintro e w7 ⟨rfl, S7⟩
        have S7 := keep2 S7
        clear PUT2 S6
        go_wp2_with fail
        go_roundw
        case rel => exact ⟨k + 1, by omega, by go_num, by
          have h1 := S7.out.pop
          have e : lk ++ [y.name, colS] ++ y.ts.map sortW ++ [semiS] = l0 ++ (rc.fs.take (k + 1)).flatMap fieldT := by
            rw [HTF.out, ← List.append_assoc, HLK.out, HFT.out]; simp
          rw [e] at h1
          exact hide h1⟩
        case measure => simp [intOf]; omega
      · obtain rfl : k = m := by omega
        have HL2 : Hid (Lie W.heap.size W wr (TB :: ts.set n (wrt W.heap.size b (l0 ++ rc.fs.flatMap fieldT)))) := hide (by have := HL.out; rw [HM.out, List.take_length] at this; exact this)
        have PUT2 := hide (put_new [ccS] #[.string ccS] 1 (n + 1) rfl rfl (GT.out _) HL2 (by rw [List.length_append]; simp only [List.length_cons, List.length_nil]; omega))
        clear HL
        go_wp2_with fail
        refine PUT2.out.mono ?_
        rintro e w7 ⟨rfl, S7⟩
        have S7 := pop_set S7
        clear PUT2
        go_wp2_with fail
        first | refine bodyPost_ret (results_none rfl _ _ _) rfl ?_ | go_end0
        exact ⟨rfl, by rw [HRT.out, ← List.append_assoc, ← List.append_assoc, HL0.out]; exact S7⟩
end
end Go.Proofs.YtnljdcghaecdaaaGreatDoor
/-
  Services, sagas put as tokens.
-/
namespace Go.Proofs.YtnljdcghaecdaaaGreatDoor
open Go.RowKit Go.Lib Go.Maps
attribute [local go_sem] Oper.semAt_some

def methK (m : MethD) : List ByteArray := [m.effect, m.name, opS, m.arg, cpS, arrS] ++ [sortW ⟨m.result, ⟨#[]⟩⟩] ++ (if bare0 m.undo = true then [] else [undoS, m.undo]) ++ [semiS]
def servK (v : ServD) : List ByteArray := [serviceS, v.name, ocS] ++ v.ms.flatMap methK ++ [ccS]
theorem sorts1_at {B : Nat} {w0 w : World} {ts : List Thing} {T : Thing} {r : Nat} {k : Int} {nm : ByteArray} (h : Hid (Lie B w0 w ts)) (n : Nat) (hn : ts[n]? = some T) (e : Hid (T = box r (.cells #[.int .u8 k, .string nm] 44 (0, 0)))) : SortsAt w (.slice (some ⟨r, 0, none⟩) 1 1) [⟨k, nm⟩] := by
  obtain ⟨c0, c1⟩ := at2 h n hn e
  have h1 := h.out.get n hn
  rw [e.out] at h1
  refine ⟨⟨rfl, _, _, rfl, (fun h => by cases h), fun _ => ⟨r, 0, rfl, box_lt (show w.heap[r]? = _ from h1), fun j u hj => ?_⟩⟩, ⟨_, _, _, rfl, Nat.le_refl _⟩⟩
  rw [Nat.zero_add]
  match j with
  | 0 => simp at hj; subst hj; exact c0
  | 1 => simp at hj; subst hj; exact c1
  | j + 2 => simp at hj
theorem keep3 {B : Nat} {w0 w : World} {X Y Z : Thing} {ts : List Thing} {n : Nat} {a c : Thing} (h : Hid (Lie B w0 w ((X :: Y :: Z :: ts.set n a).set (n + 3) c))) : Hid (Lie B w0 w (X :: Y :: Z :: ts.set n c)) := by
  have h1 : Lie B w0 w (X :: Y :: Z :: (ts.set n a).set n c) := h.out
  rw [List.set_set] at h1
  exact hide h1
section
variable {W w : World} {ts : List Thing} {b : Nat} {l : List ByteArray}
set_option maxRecDepth 100000 in
set_option maxHeartbeats 4000000 in
theorem service_any (rc : ServD) (hf : Hid (MethsAt W rc.mv rc.ms)) (hg : Hid (∀ f ∈ rc.ms, GMeth f)) (hfm : rc.ms.length ≤ 1000) (n : Nat) (hn : ts[n]? = some (wrt W.heap.size b l)) (h : Hid (Lie W.heap.size W w ts)) (hl : l.length + (servK rc).length ≤ 90000) :
    Calls Tryz.prog 48 #[.pointer (some ⟨b, 0, none⟩), .agg #[.string rc.name, rc.mv]] w fun e w' => e = vd ∧ Hid (Lie W.heap.size W w' (ts.set n (wrt W.heap.size b (l ++ servK rc)))) := by
  obtain ⟨A, c, efv⟩ := hf.out.shape
  rw [efv] at hf
  rw [efv]
  obtain ⟨m, hm⟩ : ∃ m, m = rc.ms.length := ⟨_, rfl⟩
  rw [← hm] at hf hfm ⊢
  have HM := hide hm
  have HN := hide hn
  have HRT : Hid (servK rc = [serviceS, rc.name, ocS] ++ rc.ms.flatMap methK ++ [ccS]) := hide rfl
  have hlen : (servK rc).length = (rc.ms.flatMap methK).length + 4 := by rw [HRT.out]; simp
  rw [hlen] at hl
  obtain ⟨w2, r3, TB, HW2, HR2, HTB, S2⟩ := lay h (.cells #[.string rc.name, .slice A m c] 83)
  obtain ⟨t0, t1⟩ := at2 S2 0 rfl HTB
  have HSZ : Hid (w2.heap.size = w.heap.size + 1) := hide (by rw [HW2.out]; simp)
  have PUT := hide (put_new [serviceS, rc.name, ocS] #[.string serviceS, .string rc.name, .string ocS] 3 (n + 1) rfl rfl hn S2 (by simp; omega))
  rw [HSZ.out] at PUT
  rw [HW2.out, HR2.out] at t0 t1
  clear efv hm hn hlen
  go_enter Tryz.func48, Tryz.ntmps48
  go_wp2_with fail
  rw [← HW2.out]
  refine PUT.out.mono ?_
  rintro e w3 ⟨rfl, S3⟩
  clear PUT t0 t1
  have GT : Hid (∀ a : Thing, (ts.set n a)[n]? = some a) := hide (fun a => set_get HN.out a)
  generalize hl0 : l ++ [serviceS, rc.name, ocS] = l0 at S3
  have HL0 := hide hl0
  have hll : l0.length = l.length + 3 := by rw [← hl0]; simp
  have S3 : Hid (Lie W.heap.size W w3 (TB :: ts.set n (wrt W.heap.size b l0))) := S3
  obtain ⟨t0, t1⟩ := at2 S3 0 rfl HTB
  rw [HR2.out] at t0 t1
  clear hl0
  go_wp2_with fail
  clear t0 t1
  go_loopw [14] (fun s14 wr => ∃ k : Nat, k ≤ m ∧ s14 = .int .i64 k ∧ Hid (Lie W.heap.size W wr (TB :: ts.set n (wrt W.heap.size b (l0 ++ (rc.ms.take k).flatMap methK))))) (fun s14 _ => m - (intOf s14).toNat)
  case atStart => exact ⟨0, by omega, rfl, hide (by simpa using S3.out)⟩
  case round =>
    clear S3
    obtain ⟨k, hk, rfl, HL⟩ := hrel
    by_cases hlt : k < m
    · have hil : k < rc.ms.length := by have := HM.out; omega
      obtain ⟨y, b', o', HY, rfl, hb', g0, g1, g2, g3, g4, hy1, hy2, hy3, hy4⟩ := meth_in hf hg (turn_of HL.out) hil
      have HTF := hide (take_flat (f := methK) hil HY)
      have hfl := flat_le1 (f := methK) hil HY
      have hfy : 8 ≤ (methK y).length ∧ (methK y).length ≤ 10 := by unfold methK; split <;> simp
      have HFT : Hid (methK y = [y.effect, y.name, opS, y.arg, cpS, arrS] ++ [sortW ⟨y.result, ⟨#[]⟩⟩] ++ (if bare0 y.undo = true then [] else [undoS, y.undo]) ++ [semiS]) := hide rfl
      have hkl : (l0 ++ (rc.ms.take k).flatMap methK).length ≤ 90000 := by rw [List.length_append]; omega
      generalize hlk : l0 ++ (rc.ms.take k).flatMap methK = lk at *
      have HLK := hide hlk
      obtain ⟨w4, rx, FB, HW4, HR4, HFB, S4⟩ := lay HL (.cells #[.string y.name, .string y.arg, .int .u8 y.result, .string y.effect, .string y.undo] 85)
      have HSZ4 : Hid (w4.heap.size = wr.heap.size + 1) := hide (by rw [HW4.out]; simp)
      obtain ⟨f0, f1, f2, f3, f4⟩ := at5 S4 0 rfl HFB
      rw [HW4.out, HR4.out] at f0 f1 f2 f3 f4
      have PUT := hide (put_new [y.effect, y.name, opS, y.arg, cpS, arrS] #[.string y.effect, .string y.name, .string opS, .string y.arg, .string cpS, .string arrS] 6 (n + 2) rfl rfl (GT.out _) S4 (by simp; omega))
      rw [HSZ4.out] at PUT
      clear hlk hfl hfy
      go_wp2_with fail
      rw [← HW4.out]
      refine PUT.out.mono ?_
      rintro e w5 ⟨rfl, S5⟩
      have S5 := keep2 S5
      clear PUT f0 f1 f2 f3 f4 S4
      obtain ⟨w6, rs, SBX, HW6, HR6, HSBX, S6⟩ := lay S5 (.cells #[.int .u8 y.result, .string ⟨#[]⟩] 44)
      obtain ⟨f0, f1, f2, f3, f4⟩ := at5 S5 0 rfl HFB
      rw [HR4.out] at f0 f1 f2 f3 f4
      have CS := hide (sorts_any (w0 := W) (.slice (some ⟨rs, 0, none⟩) 1 1) [⟨y.result, ⟨#[]⟩⟩] (n + 3) (GT.out _) S6 (by simp; omega) (hide (fun w' l' L => sorts1_at L 0 rfl HSBX)))
      go_wp2_with fail
      rw [← HW6.out, ← HR6.out]
      refine CS.out.mono ?_
      rintro e w7 ⟨rfl, S7⟩
      have S7 := hide (keep3 S7).out.pop
      clear CS S5 S6 f0 f1 f2 f3 f4
      have S7 : Hid (Lie W.heap.size W w7 (FB :: TB :: ts.set n (wrt W.heap.size b (lk ++ [y.effect, y.name, opS, y.arg, cpS, arrS] ++ [sortW ⟨y.result, ⟨#[]⟩⟩])))) := S7
      obtain ⟨f0, f1, f2, f3, f4⟩ := at5 S7 0 rfl HFB
      rw [HR4.out] at f0 f1 f2 f3 f4
      have e1 := bare_eq y.undo
      have HKA : Hid (l0 ++ (rc.ms.take (k + 1)).flatMap methK = lk ++ methK y) := hide (by rw [HTF.out, ← List.append_assoc, HLK.out])
      generalize hq : lk ++ [y.effect, y.name, opS, y.arg, cpS, arrS] ++ [sortW ⟨y.result, ⟨#[]⟩⟩] = lq at *
      have HLQ := hide hq
      have hlq : lq.length = lk.length + 7 := by rw [← hq]; simp
      clear hq
      cases hbu : bare0 y.undo with
      | true =>
        rw [hbu] at e1 HFT
        clear hbu
        have PUT2 := hide (put_new [semiS] #[.string semiS] 1 (n + 2) rfl rfl (GT.out _) S7 (by simp; omega))
        go_wp2_with fail
        refine PUT2.out.mono ?_
        rintro e w8 ⟨rfl, S8⟩
        have S8 := keep2 S8
        clear PUT2 f0 f1 f2 f3 f4
        go_wp2_with fail
        go_roundw
        case rel => exact ⟨k + 1, by omega, by go_num, by
          have e : lq ++ [semiS] = l0 ++ (rc.ms.take (k + 1)).flatMap methK := by rw [HKA.out, HFT.out, ← HLQ.out]; simp
          rw [← e]
          exact hide S8.out.pop⟩
        case measure => simp [intOf]; omega
      | false =>
        rw [hbu] at e1 HFT
        clear hbu
        have PUT2 := hide (put_new [undoS, y.undo] #[.string undoS, .string y.undo] 2 (n + 2) rfl rfl (GT.out _) S7 (by simp; omega))
        go_wp2_with fail
        refine PUT2.out.mono ?_
        rintro e w8 ⟨rfl, S8⟩
        have S8 := keep2 S8
        clear PUT2 f0 f1 f2 f3 f4
        have PUT3 := hide (put_new [semiS] #[.string semiS] 1 (n + 2) rfl rfl (GT.out _) S8 (by simp; omega))
        go_wp2_with fail
        refine PUT3.out.mono ?_
        rintro e w9 ⟨rfl, S9⟩
        have S9 := keep2 S9
        clear PUT3
        go_wp2_with fail
        go_roundw
        case rel => exact ⟨k + 1, by omega, by go_num, by
          have e : lq ++ [undoS, y.undo] ++ [semiS] = l0 ++ (rc.ms.take (k + 1)).flatMap methK := by rw [HKA.out, HFT.out, ← HLQ.out]; simp
          rw [← e]
          exact hide S9.out.pop⟩
        case measure => simp [intOf]; omega
    · obtain rfl : k = m := by omega
      have HL2 : Hid (Lie W.heap.size W wr (TB :: ts.set n (wrt W.heap.size b (l0 ++ rc.ms.flatMap methK)))) := hide (by have := HL.out; rw [HM.out, List.take_length] at this; exact this)
      have PUT2 := hide (put_new [ccS] #[.string ccS] 1 (n + 1) rfl rfl (GT.out _) HL2 (by rw [List.length_append]; simp only [List.length_cons, List.length_nil]; omega))
      clear HL
      go_wp2_with fail
      refine PUT2.out.mono ?_
      rintro e w7 ⟨rfl, S7⟩
      have S7 := pop_set S7
      clear PUT2
      go_wp2_with fail
      first | refine bodyPost_ret (results_none rfl _ _ _) rfl ?_ | go_end0
      exact ⟨rfl, by rw [HRT.out, ← List.append_assoc, ← List.append_assoc, HL0.out]; exact S7⟩
def stepK (x : StepD) : List ByteArray := [doS, x.srv, dotS, x.mth, atS, ⟨(Lib.decDigits x.node.toNat).toArray⟩, semiS]
def sagaK (g : SagaD) : List ByteArray := [sagaS, g.name, opS, g.arg, cpS, ocS] ++ g.ss.flatMap stepK ++ [ccS]
set_option maxRecDepth 100000 in
set_option maxHeartbeats 4000000 in
theorem saga_any (rc : SagaD) (hf : Hid (StepsAt W rc.sv rc.ss)) (hg : Hid (∀ f ∈ rc.ss, GStep f)) (hnd : Hid (∀ f ∈ rc.ss, 0 ≤ f.node ∧ f.node < 100)) (hfm : rc.ss.length ≤ 1000) (n : Nat) (hn : ts[n]? = some (wrt W.heap.size b l)) (h : Hid (Lie W.heap.size W w ts)) (hl : l.length + (sagaK rc).length ≤ 90000) :
    Calls Tryz.prog 49 #[.pointer (some ⟨b, 0, none⟩), .agg #[.string rc.name, .string rc.arg, rc.sv]] w fun e w' => e = vd ∧ Hid (Lie W.heap.size W w' (ts.set n (wrt W.heap.size b (l ++ sagaK rc)))) := by
  obtain ⟨A, c, efv⟩ := hf.out.shape
  rw [efv] at hf
  rw [efv]
  obtain ⟨m, hm⟩ : ∃ m, m = rc.ss.length := ⟨_, rfl⟩
  rw [← hm] at hf hfm ⊢
  have HM := hide hm
  have HN := hide hn
  have HRT : Hid (sagaK rc = [sagaS, rc.name, opS, rc.arg, cpS, ocS] ++ rc.ss.flatMap stepK ++ [ccS]) := hide rfl
  have hlen : (sagaK rc).length = (rc.ss.flatMap stepK).length + 7 := by rw [HRT.out]; simp
  rw [hlen] at hl
  obtain ⟨w2, r3, TB, HW2, HR2, HTB, S2⟩ := lay h (.cells #[.string rc.name, .string rc.arg, .slice A m c] 88)
  obtain ⟨t0, t1, t2⟩ := at3 S2 0 rfl HTB
  have HSZ : Hid (w2.heap.size = w.heap.size + 1) := hide (by rw [HW2.out]; simp)
  have PUT := hide (put_new [sagaS, rc.name, opS, rc.arg, cpS, ocS] #[.string sagaS, .string rc.name, .string opS, .string rc.arg, .string cpS, .string ocS] 6 (n + 1) rfl rfl hn S2 (by simp; omega))
  rw [HSZ.out] at PUT
  rw [HW2.out, HR2.out] at t0 t1 t2
  clear efv hm hn hlen
  go_enter Tryz.func49, Tryz.ntmps49
  go_wp2_with fail
  rw [← HW2.out]
  refine PUT.out.mono ?_
  rintro e w3 ⟨rfl, S3⟩
  clear PUT t0 t1 t2
  have GT : Hid (∀ a : Thing, (ts.set n a)[n]? = some a) := hide (fun a => set_get HN.out a)
  generalize hl0 : l ++ [sagaS, rc.name, opS, rc.arg, cpS, ocS] = l0 at S3
  have HL0 := hide hl0
  have hll : l0.length = l.length + 6 := by rw [← hl0]; simp
  have S3 : Hid (Lie W.heap.size W w3 (TB :: ts.set n (wrt W.heap.size b l0))) := S3
  obtain ⟨t0, t1, t2⟩ := at3 S3 0 rfl HTB
  rw [HR2.out] at t0 t1 t2
  clear hl0
  go_wp2_with fail
  clear t0 t1 t2
  go_loopw [16] (fun s16 wr => ∃ k : Nat, k ≤ m ∧ s16 = .int .i64 k ∧ Hid (Lie W.heap.size W wr (TB :: ts.set n (wrt W.heap.size b (l0 ++ (rc.ss.take k).flatMap stepK))))) (fun s16 _ => m - (intOf s16).toNat)
  case atStart => exact ⟨0, by omega, rfl, hide (by simpa using S3.out)⟩
  case round =>
    clear S3
    obtain ⟨k, hk, rfl, HL⟩ := hrel
    by_cases hlt : k < m
    · have hil : k < rc.ss.length := by have := HM.out; omega
      obtain ⟨y, b', o', HY, rfl, hb', g0, g1, g2, hy1, hy2⟩ := step_in hf hg (turn_of HL.out) hil
      have hnn := hnd.out y (by rw [HY.out]; exact List.getElem_mem hil)
      have HTF := hide (take_flat (f := stepK) hil HY)
      have hfl := flat_le1 (f := stepK) hil HY
      have hfy : (stepK y).length = 7 := rfl
      have hkl : (l0 ++ (rc.ss.take k).flatMap stepK).length ≤ 90000 := by rw [List.length_append]; omega
      generalize hlk : l0 ++ (rc.ss.take k).flatMap stepK = lk at *
      have HKA : Hid (l0 ++ (rc.ss.take (k + 1)).flatMap stepK = lk ++ stepK y) := hide (by rw [HTF.out, ← List.append_assoc, hlk])
      obtain ⟨i, hi⟩ : ∃ i : Nat, y.node = (i : Int) := ⟨y.node.toNat, by omega⟩
      have HFT : Hid (stepK y = [doS, y.srv, dotS, y.mth, atS, ⟨(Lib.decDigits i).toArray⟩, semiS]) := hide (by unfold stepK; rw [hi]; rfl)
      have hi100 : i < 100 := by omega
      rw [hi] at g2
      obtain ⟨w4, rx, FB, HW4, HR4, HFB, S4⟩ := lay HL (.cells #[.string y.srv, .string y.mth, .int .i64 (i : Int)] 90)
      have CI := hide (Tryz.strconv_Itoa_small i hi100 w4.drew)
      generalize (⟨(Lib.decDigits i).toArray⟩ : ByteArray) = iz at *
      obtain ⟨f0, f1, f2⟩ := at3 S4 0 rfl HFB
      have PUT := hide (put_new (w := w4.drew) [doS, y.srv, dotS, y.mth, atS, iz, semiS] #[.string doS, .string y.srv, .string dotS, .string y.mth, .string atS, .string iz, .string semiS] 7 (n + 2) rfl rfl (GT.out _) (hide S4.out.drew) (by simp; omega))
      clear hlk hfl hfy HTF hi
      go_upto_region 5 with (fail)
      rw [← HW4.out, ← HR4.out]
      have K0 : ∀ o : Obj, (w4.drew.alloc o).cell? ⟨rx, 0, none⟩ = some (.string y.srv) := fun o => (at3 (hide (S4.out.drew.skip o)) 0 rfl HFB).1
      have K1 : ∀ o : Obj, (w4.drew.alloc o).cell? ⟨rx, 1, none⟩ = some (.string y.mth) := fun o => (at3 (hide (S4.out.drew.skip o)) 0 rfl HFB).2.1
      have K2 : ∀ o : Obj, (w4.drew.alloc o).cell? ⟨rx, 2, none⟩ = some (.int .i64 (i : Int)) := fun o => (at3 (hide (S4.out.drew.skip o)) 0 rfl HFB).2.2
      go_region_held3 (fun W' => W'.cell? ⟨rx, 0, none⟩ = some (.string y.srv) ∧ W'.cell? ⟨rx, 1, none⟩ = some (.string y.mth) ∧ W'.cell? ⟨rx, 2, none⟩ = some (.int .i64 (i : Int))) (go_keep) (first
        | (go_at_call 85; refine CI.out.mono ?_; rintro e w5 ⟨rfl, rfl⟩)
        | (go_at_call 46; refine PUT.out.mono ?_; rintro e w6 ⟨rfl, S6⟩; obtain ⟨q0, q1, q2⟩ := at3 (keep2 S6) 0 rfl HFB))
      have S6 := keep2 S6
      clear PUT K0 K1 K2 f0 f1 f2 g0 g1 g2 q0 q1 q2
      go_wp2_with fail
      go_roundw
      case rel => exact ⟨k + 1, by omega, by go_num, by rw [HKA.out, HFT.out]; exact hide S6.out.pop⟩
      case measure => simp [intOf]; omega
    · obtain rfl : k = m := by omega
      have HL2 : Hid (Lie W.heap.size W wr (TB :: ts.set n (wrt W.heap.size b (l0 ++ rc.ss.flatMap stepK)))) := hide (by have := HL.out; rw [HM.out, List.take_length] at this; exact this)
      have PUT2 := hide (put_new [ccS] #[.string ccS] 1 (n + 1) rfl rfl (GT.out _) HL2 (by rw [List.length_append]; simp only [List.length_cons, List.length_nil]; omega))
      clear HL
      go_wp2_with fail
      refine PUT2.out.mono ?_
      rintro e w7 ⟨rfl, S7⟩
      have S7 := pop_set S7
      clear PUT2
      go_wp2_with fail
      first | refine bodyPost_ret (results_none rfl _ _ _) rfl ?_ | go_end0
      exact ⟨rfl, by rw [HRT.out, ← List.append_assoc, ← List.append_assoc, HL0.out]; exact S7⟩
end
end Go.Proofs.YtnljdcghaecdaaaGreatDoor
namespace Go.Proofs.YtnljdcghaecdaaaGreatDoor
open Go.RowKit Go.Lib Go.Maps
attribute [local go_sem] Oper.semAt_some

def moduleS : ByteArray := ⟨#[109, 111, 100, 117, 108, 101]⟩
def textT (s : SchD) : List ByteArray := [moduleS, s.name, semiS] ++ s.rs.flatMap recT ++ s.vs.flatMap servK ++ s.gs.flatMap sagaK
section
variable {W w : World}
theorem rec_in2 {rs : List RecD} {A : Option Addr} {n c : Nat} (H : Hid (RecsAt W (.slice A n c) rs)) (G : Hid (∀ r ∈ rs, GRec r)) (T : Turn (fun _ => False) W w) {k : Nat} (hk : k < rs.length) :
    ∃ (x : RecD) (b o : Nat) (Am : Option Addr) (m cm : Nat), Hid (x = rs[k]) ∧ A = some ⟨b, o, none⟩ ∧ w.cell? ⟨b, o + k * 3, none⟩ = some (.string x.name) ∧ w.cell? ⟨b, o + k * 3 + 1, none⟩ = some (.bool x.choice) ∧ w.cell? ⟨b, o + k * 3 + 2, none⟩ = some (.slice Am m cm) ∧
      Hid (x.fv = .slice Am m cm) ∧ Hid (FieldsAt W x.fv x.fs) ∧ Hid (∀ f ∈ x.fs, GField f) ∧ x.fs.length ≤ 40 := by
  obtain ⟨b, o, e, hb, _, hc⟩ := rec_at (A := A) (c := c) (n := n) rs (H.out.on T) (by omega)
  obtain ⟨d0, d1, d2⟩ := hc k hk
  obtain ⟨Am, cm, em⟩ := (H.out.2 rs[k] (List.getElem_mem hk)).1.shape
  have hg := G.out rs[k] (List.getElem_mem hk)
  exact ⟨rs[k], b, o, Am, _, cm, hide rfl, e, d0, d1, by rw [d2, em], hide em, hide (H.out.2 rs[k] (List.getElem_mem hk)), hide hg.2.2, hg.2.1⟩
theorem serv_in2 {rs : List ServD} {A : Option Addr} {n c : Nat} (H : Hid (ServsAt W (.slice A n c) rs)) (G : Hid (∀ r ∈ rs, GServ r)) (T : Turn (fun _ => False) W w) {k : Nat} (hk : k < rs.length) :
    ∃ (x : ServD) (b o : Nat) (Am : Option Addr) (m cm : Nat), Hid (x = rs[k]) ∧ A = some ⟨b, o, none⟩ ∧ w.cell? ⟨b, o + k * 2, none⟩ = some (.string x.name) ∧ w.cell? ⟨b, o + k * 2 + 1, none⟩ = some (.slice Am m cm) ∧
      Hid (x.mv = .slice Am m cm) ∧ Hid (MethsAt W x.mv x.ms) ∧ Hid (∀ f ∈ x.ms, GMeth f) ∧ x.ms.length ≤ 40 := by
  obtain ⟨b, o, e, hb, _, hc⟩ := serv_at (A := A) (c := c) (n := n) rs (H.out.on T) (by omega)
  obtain ⟨d0, d1⟩ := hc k hk
  obtain ⟨Am, cm, em⟩ := (H.out.2 rs[k] (List.getElem_mem hk)).shape
  have hg := G.out rs[k] (List.getElem_mem hk)
  exact ⟨rs[k], b, o, Am, _, cm, hide rfl, e, d0, by rw [d1, em], hide em, hide (H.out.2 rs[k] (List.getElem_mem hk)), hide hg.2.2, hg.2.1⟩
theorem saga_in2 {rs : List SagaD} {A : Option Addr} {n c : Nat} (H : Hid (SagasAt W (.slice A n c) rs)) (G : Hid (∀ r ∈ rs, GSaga r)) (T : Turn (fun _ => False) W w) {k : Nat} (hk : k < rs.length) :
    ∃ (x : SagaD) (b o : Nat) (Am : Option Addr) (m cm : Nat), Hid (x = rs[k]) ∧ A = some ⟨b, o, none⟩ ∧ w.cell? ⟨b, o + k * 3, none⟩ = some (.string x.name) ∧ w.cell? ⟨b, o + k * 3 + 1, none⟩ = some (.string x.arg) ∧ w.cell? ⟨b, o + k * 3 + 2, none⟩ = some (.slice Am m cm) ∧
      Hid (x.sv = .slice Am m cm) ∧ Hid (StepsAt W x.sv x.ss) ∧ Hid (∀ f ∈ x.ss, GStep f) ∧ x.ss.length ≤ 40 := by
  obtain ⟨b, o, e, hb, _, hc⟩ := saga_at (A := A) (c := c) (n := n) rs (H.out.on T) (by omega)
  obtain ⟨d0, d1, d2⟩ := hc k hk
  obtain ⟨Am, cm, em⟩ := (H.out.2 rs[k] (List.getElem_mem hk)).shape
  have hg := G.out rs[k] (List.getElem_mem hk)
  exact ⟨rs[k], b, o, Am, _, cm, hide rfl, e, d0, d1, by rw [d2, em], hide em, hide (H.out.2 rs[k] (List.getElem_mem hk)), hide hg.2.2.2, hg.2.2.1⟩
end
theorem nodes_of {s : SchD} (h : checkB s = true) : ∀ g ∈ s.gs, ∀ x ∈ g.ss, 0 ≤ x.node ∧ x.node < 100 := fun g hg x hx => by
  have h1 : stepsB s = true := by
    unfold checkB at h
    simp only [Bool.and_eq_true] at h
    exact h.1.2
  have h2 := List.all_eq_true.1 h1 g hg
  have h3 := List.all_eq_true.1 h2 x hx
  unfold stepB at h3
  simp only [Bool.and_eq_true, decide_eq_true_eq] at h3
  omega
set_option maxRecDepth 100000 in
set_option maxHeartbeats 8000000 in
theorem text_sch (s : SchD) (w : World) (h : SchAt w s) (g : GSch s) (hk : Kw w) (hc : checkB s = true) (hl : (textT s).length ≤ 80000) (hj : (joinL (textT s)).length ≤ 65536) :
    Calls Tryz.prog 26 #[schv s] w fun e w' => e = .returned (.tuple #[.string (joinS (textT s)), .int .i64 0]) ∧ Turn (fun _ => False) w w' := by
  have CC := hide (fun (w' : World) (t : Turn (fun _ => False) w w') => check_any s w' (h.on t) g (kw_on (hide hk) t))
  have HND := hide (nodes_of hc)
  obtain ⟨Ar, nr, cr, Av, nv, cv, Ag, ng, cg, ev, HSR, HSV, HSG, HGR, HGV, HGG, hnr, hnv, hng⟩ := sch_in s h g
  rw [ev] at CC ⊢
  have HTT : Hid (textT s = [moduleS, s.name, semiS] ++ s.rs.flatMap recT ++ s.vs.flatMap servK ++ s.gs.flatMap sagaK) := hide rfl
  have hlen : (textT s).length = 3 + (s.rs.flatMap recT).length + (s.vs.flatMap servK).length + (s.gs.flatMap sagaK).length := by rw [HTT.out, List.length_append, List.length_append, List.length_append]; rfl
  obtain ⟨w1, r, SB, HW, HR, HSB, S1⟩ := lay (hide (Lie.start w)) (.cells #[.string s.name, .slice Ar nr cr, .slice Av nv cv, .slice Ag ng cg] 26)
  obtain ⟨z0, z1, z2, z3⟩ := at4 S1 0 rfl HSB
  rw [HW.out] at z0 z1 z2 z3
  have C1 := hide (CC.out w1 (lie_turn S1))
  rw [hc] at C1
  rw [hlen] at hl
  have HJ := hide hj
  clear CC h g hk hc ev hlen hj
  go_enter Tryz.func26, Tryz.ntmps26
  go_wp2_with fail
  rw [← HW.out, ← HR.out]
  refine C1.out.mono ?_
  rintro e w2 ⟨x, n, rfl, hgood, _, T2⟩
  have S2 := hide (S1.out.stay T2)
  obtain ⟨rfl, rfl⟩ := hgood rfl
  clear C1 z0 z1 z2 z3 T2 hgood
  obtain ⟨z0, z1, z2, z3⟩ := at4 S2 0 rfl HSB
  have S3 := lay_wrt S2
  obtain ⟨w3, HW3⟩ : ∃ w3, Hid (w3 = w2.alloc (.cells #[.slice none 0 0] 110)) := ⟨_, hide rfl⟩
  obtain ⟨wb, HWB⟩ : ∃ b, Hid (b = w2.heap.size) := ⟨_, hide rfl⟩
  have HSZ : Hid (w3.heap.size = w2.heap.size + 1) := hide (by rw [HW3.out]; simp)
  rw [← HW3.out, ← HWB.out] at S3
  obtain ⟨y0, y1, y2, y3⟩ := at4 S3 1 rfl HSB
  rw [HW3.out] at y0 y1 y2 y3
  have PUT := hide (put_new [moduleS, s.name, semiS] #[.string moduleS, .string s.name, .string semiS] 3 0 rfl rfl rfl S3 (by simp))
  rw [HSZ.out] at PUT
  clear z0 z1 z2 z3
  go_wp2_with fail
  rw [← HW3.out, ← HWB.out]
  rw [← HWB.out] at PUT
  refine PUT.out.mono ?_
  rintro e w4 ⟨rfl, S4⟩
  have S4 : Hid (Lie w.heap.size w w4 [wrt w.heap.size wb [moduleS, s.name, semiS], SB]) := S4
  clear y0 y1 y2 y3 PUT S3
  obtain ⟨z0, z1, z2, z3⟩ := at4 S4 1 rfl HSB
  go_wp2_with fail
  clear z0 z1 z2 z3
  generalize hl0 : [moduleS, s.name, semiS] = l0 at *
  have HL0 := hide hl0
  have hll : l0.length = 3 := by rw [← hl0]; rfl
  clear hl0
  go_loopw [32] (fun sA wr => ∃ k : Nat, k ≤ nr ∧ sA = .int .i64 k ∧ Hid (Lie w.heap.size w wr [wrt w.heap.size wb (l0 ++ (s.rs.take k).flatMap recT), SB])) (fun sA _ => nr - (intOf sA).toNat)
  case atStart => exact ⟨0, by omega, rfl, hide (by simpa using S4.out)⟩
  case round =>
    clear S4
    obtain ⟨k0, hk0, rfl, HL⟩ := hrel
    by_cases hlt0 : k0 < nr
    · have hil : k0 < s.rs.length := by have := recs_len HSR; omega
      obtain ⟨x, b, o, Am, m, cm, HX, rfl, d0, d1, d2, HXV, HFA, HGF, hm4⟩ := rec_in2 HSR HGR (lie_turn HL) hil
      have HTF := hide (take_flat (f := recT) hil HX)
      have hfl := flat_le1 (f := recT) hil HX
      obtain ⟨w5, rx, XB, HW5, HR5, HXB, S5⟩ := lay HL (.cells #[.string x.name, .bool x.choice, .slice Am m cm] 61)
      have hcl : (l0 ++ (s.rs.take k0).flatMap recT).length + (recT x).length ≤ 90000 := by rw [List.length_append]; omega
      generalize hcc : l0 ++ (s.rs.take k0).flatMap recT = cc at *
      have HCC := hide hcc
      clear hcc
      have C1 := hide (record_any x HFA HGF (by omega) (b := wb) (l := cc) 1 rfl S5 hcl)
      unfold recv at C1
      rw [HXV.out] at C1
      clear hfl hcl
      go_wp2_with fail
      rw [← HW5.out]
      refine C1.out.mono ?_
      rintro e w6 ⟨rfl, S6⟩
      have S6 : Hid (Lie w.heap.size w w6 [XB, wrt w.heap.size wb (cc ++ recT x), SB]) := S6
      clear C1 d0 d1 d2
      go_wp2_with fail
      go_roundw
      case rel => exact ⟨k0 + 1, by omega, by go_num, by rw [HTF.out, ← List.append_assoc, HCC.out]; exact hide S6.out.pop⟩
      case measure => simp [intOf]; omega
    · obtain rfl : k0 = nr := by omega
      have HL2 : Hid (Lie w.heap.size w wr [wrt w.heap.size wb (l0 ++ s.rs.flatMap recT), SB]) := hide (by have := HL.out; rw [recs_len HSR, List.take_length] at this; exact this)
      clear HL
      have hl0 : (l0 ++ s.rs.flatMap recT).length = l0.length + (s.rs.flatMap recT).length := List.length_append
      generalize hll0 : l0 ++ s.rs.flatMap recT = l1 at *
      have HLL0 := hide hll0
      clear hll0
      obtain ⟨z0, z1, z2, z3⟩ := at4 HL2 1 rfl HSB
      go_wp2_with fail
      clear z0 z1 z2 z3
      go_loopw [43] (fun sA wr => ∃ k : Nat, k ≤ nv ∧ sA = .int .i64 k ∧ Hid (Lie w.heap.size w wr [wrt w.heap.size wb (l1 ++ (s.vs.take k).flatMap servK), SB])) (fun sA _ => nv - (intOf sA).toNat)
      case atStart => exact ⟨0, by omega, rfl, hide (by simpa using HL2.out)⟩
      case round =>
        clear HL2
        obtain ⟨k1, hk1, rfl, HL⟩ := hrel
        by_cases hlt1 : k1 < nv
        · have hil : k1 < s.vs.length := by have := servs_len HSV; omega
          obtain ⟨x, b, o, Am, m, cm, HX, rfl, d0, d1, HXV, HFA, HGF, hm4⟩ := serv_in2 HSV HGV (lie_turn HL) hil
          have HTF := hide (take_flat (f := servK) hil HX)
          have hfl := flat_le1 (f := servK) hil HX
          obtain ⟨w5, rx, XB, HW5, HR5, HXB, S5⟩ := lay HL (.cells #[.string x.name, .slice Am m cm] 83)
          have hcl : (l1 ++ (s.vs.take k1).flatMap servK).length + (servK x).length ≤ 90000 := by rw [List.length_append]; omega
          generalize hcc : l1 ++ (s.vs.take k1).flatMap servK = cc at *
          have HCC := hide hcc
          clear hcc
          have C1 := hide (service_any x HFA HGF (by omega) (b := wb) (l := cc) 1 rfl S5 hcl)
          rw [HXV.out] at C1
          clear hfl hcl
          go_wp2_with fail
          rw [← HW5.out]
          refine C1.out.mono ?_
          rintro e w6 ⟨rfl, S6⟩
          have S6 : Hid (Lie w.heap.size w w6 [XB, wrt w.heap.size wb (cc ++ servK x), SB]) := S6
          clear C1 d0 d1
          go_wp2_with fail
          go_roundw
          case rel => exact ⟨k1 + 1, by omega, by go_num, by rw [HTF.out, ← List.append_assoc, HCC.out]; exact hide S6.out.pop⟩
          case measure => simp [intOf]; omega
        · obtain rfl : k1 = nv := by omega
          have HL2 : Hid (Lie w.heap.size w wr [wrt w.heap.size wb (l1 ++ s.vs.flatMap servK), SB]) := hide (by have := HL.out; rw [servs_len HSV, List.take_length] at this; exact this)
          clear HL
          have hl1 : (l1 ++ s.vs.flatMap servK).length = l1.length + (s.vs.flatMap servK).length := List.length_append
          generalize hll1 : l1 ++ s.vs.flatMap servK = l2 at *
          have HLL1 := hide hll1
          clear hll1
          obtain ⟨z0, z1, z2, z3⟩ := at4 HL2 1 rfl HSB
          go_wp2_with fail
          clear z0 z1 z2 z3
          go_loopw [54] (fun sA wr => ∃ k : Nat, k ≤ ng ∧ sA = .int .i64 k ∧ Hid (Lie w.heap.size w wr [wrt w.heap.size wb (l2 ++ (s.gs.take k).flatMap sagaK), SB])) (fun sA _ => ng - (intOf sA).toNat)
          case atStart => exact ⟨0, by omega, rfl, hide (by simpa using HL2.out)⟩
          case round =>
            clear HL2
            obtain ⟨k2, hk2, rfl, HL⟩ := hrel
            by_cases hlt2 : k2 < ng
            · have hil : k2 < s.gs.length := by have := sagas_len HSG; omega
              obtain ⟨x, b, o, Am, m, cm, HX, rfl, d0, d1, d2, HXV, HFA, HGF, hm4⟩ := saga_in2 HSG HGG (lie_turn HL) hil
              have HTF := hide (take_flat (f := sagaK) hil HX)
              have hfl := flat_le1 (f := sagaK) hil HX
              obtain ⟨w5, rx, XB, HW5, HR5, HXB, S5⟩ := lay HL (.cells #[.string x.name, .string x.arg, .slice Am m cm] 88)
              have hcl : (l2 ++ (s.gs.take k2).flatMap sagaK).length + (sagaK x).length ≤ 90000 := by rw [List.length_append]; omega
              generalize hcc : l2 ++ (s.gs.take k2).flatMap sagaK = cc at *
              have HCC := hide hcc
              clear hcc
              have C1 := hide (saga_any x HFA HGF (hide (HND.out x (by rw [HX.out]; exact List.getElem_mem hil))) (by omega) (b := wb) (l := cc) 1 rfl S5 hcl)
              rw [HXV.out] at C1
              clear hfl hcl
              go_wp2_with fail
              rw [← HW5.out]
              refine C1.out.mono ?_
              rintro e w6 ⟨rfl, S6⟩
              have S6 : Hid (Lie w.heap.size w w6 [XB, wrt w.heap.size wb (cc ++ sagaK x), SB]) := S6
              clear C1 d0 d1 d2
              go_wp2_with fail
              go_roundw
              case rel => exact ⟨k2 + 1, by omega, by go_num, by rw [HTF.out, ← List.append_assoc, HCC.out]; exact hide S6.out.pop⟩
              case measure => simp [intOf]; omega
            · obtain rfl : k2 = ng := by omega
              have HL2 : Hid (Lie w.heap.size w wr [wrt w.heap.size wb (l2 ++ s.gs.flatMap sagaK), SB]) := hide (by have := HL.out; rw [sagas_len HSG, List.take_length] at this; exact this)
              clear HL
              have hl2 : (l2 ++ s.gs.flatMap sagaK).length = l2.length + (s.gs.flatMap sagaK).length := List.length_append
              generalize hll2 : l2 ++ s.gs.flatMap sagaK = l3 at *
              have HLL2 := hide hll2
              clear hll2
              have HFT : Hid (l3 = textT s) := hide (by rw [HTT.out, ← HLL2.out, ← HLL1.out, ← HLL0.out])
              have CJ := hide (text_ret 0 rfl HL2 (by omega) (by rw [HFT.out]; have := HJ.out; omega))
              rw [HFT.out] at CJ
              have hsz : (joinS (textT s)).size ≤ 65536 := by
                have e : (joinS (textT s)).size = (joinL (textT s)).length := by unfold joinS; simp [ByteArray.size]
                have := HJ.out; omega
              obtain ⟨z, hz⟩ : ∃ z, z = joinS (textT s) := ⟨_, rfl⟩
              have HZ := hide hz
              rw [← hz] at CJ hsz
              clear hz
              go_wp2_with fail
              refine CJ.out.mono ?_
              rintro e w9 ⟨rfl, T9⟩
              go_wp2_with fail
              go_ret2
              exact ⟨by rw [← HZ.out]; rfl, (lie_turn HL2).trans T9⟩
/-- A text's print. -/
def lgN (s : ByteArray) : Nat → Int
  | 0 => 14695981039346656037
  | i + 1 => IntKind.u64.wrap (bits .xor .u64 (lgN s i) (IntKind.u64.wrap (byt s i)) * 1099511628211)
def longN (s : ByteArray) : Int := lgN s s.size
set_option maxRecDepth 100000 in
set_option maxHeartbeats 2000000 in
theorem long_any (s : ByteArray) (w : World) (hs : s.size ≤ 1000000) : Calls Tryz.prog 27 #[.string s] w fun e w' => e = .returned (.int .u64 (longN s)) ∧ w' = w := by
  go_enter Tryz.func27, Tryz.ntmps27
  go_wp2_with fail
  go_loop [3, 7] (fun s3 s7 => ∃ i : Nat, i ≤ s.size ∧ s7 = .int .i64 i ∧ s3 = .int .u64 (lgN s i)) (fun _ s7 => s.size - (intOf s7).toNat)
  case atStart => exact ⟨0, by omega, rfl, rfl⟩
  case round =>
    obtain ⟨i, hi, rfl, rfl⟩ := hrel
    by_cases hlt : i < s.size
    · have HS : Hid (lgN s (i + 1) = IntKind.u64.wrap (bits .xor .u64 (lgN s i) (IntKind.u64.wrap (byt s i)) * 1099511628211)) := hide rfl
      generalize lgN s i = c at *
      have hby : byt s i = ((s[i]'hlt).toNat : Int) := by unfold byt; rw [dif_pos hlt]
      rw [hby] at HS
      clear hby
      go_wp2_with fail
      go_round
      case rel => exact ⟨i + 1, by omega, by go_num, by rw [HS.out]⟩
      case measure => simp [intOf]; omega
    · obtain rfl : i = s.size := by omega
      go_wp2_with fail
      go_ret
      exact ⟨rfl, rfl⟩
set_option maxRecDepth 100000 in
set_option maxHeartbeats 2000000 in
theorem print_any (s : SchD) (w : World) (h : SchAt w s) (g : GSch s) (hk : Kw w) (hc : checkB s = true) (hl : (textT s).length ≤ 80000) (hj : (joinL (textT s)).length ≤ 65536) :
    Calls Tryz.prog 12 #[schv s] w fun e w' => e = .returned (.tuple #[.int .u64 (longN (joinS (textT s))), .int .i64 0]) ∧ Turn (fun _ => False) w w' := by
  have CT := hide (fun (w' : World) (t : Turn (fun _ => False) w w') => text_sch s w' (h.on t) g (kw_on (hide hk) t) hc hl hj)
  have hsz : (joinS (textT s)).size ≤ 65536 := by
    have e : (joinS (textT s)).size = (joinL (textT s)).length := by unfold joinS; simp [ByteArray.size]
    omega
  have HLG := hide (fun w => long_any (joinS (textT s)) w (by omega))
  generalize longN (joinS (textT s)) = lz at *
  generalize joinS (textT s) = z at *
  obtain ⟨Ar, nr, cr, Av, nv, cv, Ag, ng, cg, ev, _⟩ := sch_in s h g
  rw [ev] at CT ⊢
  obtain ⟨w1, r, SB, HW, HR, HSB, S1⟩ := lay (hide (Lie.start w)) (.cells #[.string s.name, .slice Ar nr cr, .slice Av nv cv, .slice Ag ng cg] 26)
  have C1 := hide (CT.out w1 (lie_turn S1))
  clear CT h g hk hc ev hl hj
  go_enter Tryz.func12, Tryz.ntmps12
  go_wp2_with fail
  rw [← HW.out]
  refine C1.out.mono ?_
  rintro e w2 ⟨rfl, T2⟩
  have S2 := hide (S1.out.stay T2)
  clear C1 T2
  go_wp2_with fail
  refine (HLG.out _).mono ?_
  rintro e w3 ⟨rfl, rfl⟩
  go_wp2_with fail
  go_ret2
  exact ⟨rfl, lie_turn S2⟩
end Go.Proofs.YtnljdcghaecdaaaGreatDoor
