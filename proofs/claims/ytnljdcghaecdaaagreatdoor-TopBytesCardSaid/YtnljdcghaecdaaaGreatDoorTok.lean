/-
  Bytes of words; keywords; names.
-/
import Derived.Test.YtnljdcghaecdaaaGreatDoorBig
import Derived.StillTailTactics
namespace Go.Proofs.YtnljdcghaecdaaaGreatDoor
open Go.RowKit Go.Lib
attribute [local go_sem] Oper.semAt_some

def letterB (c : Int) : Bool := decide (97 ≤ bits .or .u8 c 32) && decide (bits .or .u8 c 32 ≤ 122)
def digitB (c : Int) : Bool := decide (48 ≤ c) && decide (c ≤ 57)
def innerB (c : Int) : Bool := letterB c || digitB c || c == 95
set_option maxRecDepth 100000 in
theorem letter_any (c : Int) (w : World) : Calls Tryz.prog 61 #[.int .u8 c] w fun e w' => e = .returned (.bool (letterB c)) ∧ w' = w := by
  obtain ⟨x, hx⟩ : ∃ x, x = bits .or .u8 c 32 := ⟨_, rfl⟩
  have hx2 := hx.symm
  have HX := hide hx
  clear hx
  by_cases h : 97 ≤ x
  · have HL : Hid (letterB c = decide (x ≤ 122)) := hide (by unfold letterB; rw [← HX.out]; simp [h])
    go_enter Tryz.func61, Tryz.ntmps61
    go_wp2_with fail
    go_ret
    exact ⟨by rw [HL.out]; rfl, rfl⟩
  · have HL : Hid (letterB c = false) := hide (by unfold letterB; rw [← HX.out]; simp [h])
    go_enter Tryz.func61, Tryz.ntmps61
    go_wp2_with fail
    go_ret
    exact ⟨by rw [HL.out]; rfl, rfl⟩
set_option maxRecDepth 100000 in
theorem digit_any (c : Int) (w : World) : Calls Tryz.prog 92 #[.int .u8 c] w fun e w' => e = .returned (.bool (digitB c)) ∧ w' = w := by
  by_cases h : 48 ≤ c
  · have HL : Hid (digitB c = decide (c ≤ 57)) := hide (by unfold digitB; simp [h])
    go_enter Tryz.func92, Tryz.ntmps92
    go_wp2_with fail
    go_ret
    exact ⟨by rw [HL.out]; rfl, rfl⟩
  · have HL : Hid (digitB c = false) := hide (by unfold digitB; simp [h])
    go_enter Tryz.func92, Tryz.ntmps92
    go_wp2_with fail
    go_ret
    exact ⟨by rw [HL.out]; rfl, rfl⟩
set_option maxRecDepth 100000 in
theorem inner_any (c : Int) (w : World) : Calls Tryz.prog 64 #[.int .u8 c] w fun e w' => e = .returned (.bool (innerB c)) ∧ w' = w := by
  cases hl : letterB c with
  | true =>
    have HL : Hid (innerB c = true) := hide (by unfold innerB; rw [hl]; rfl)
    have CL := hide (letter_any c w)
    rw [hl] at CL
    go_enter Tryz.func64, Tryz.ntmps64
    go_wp2_with fail
    refine CL.out.mono ?_
    rintro e w1 ⟨rfl, rfl⟩
    go_wp2_with fail
    go_ret
    exact ⟨by rw [HL.out]; rfl, rfl⟩
  | false =>
    have CL := hide (letter_any c w)
    rw [hl] at CL
    cases hd : digitB c with
    | true =>
      have HL : Hid (innerB c = true) := hide (by unfold innerB; rw [hl, hd]; rfl)
      have CD := hide (digit_any c w)
      rw [hd] at CD
      go_enter Tryz.func64, Tryz.ntmps64
      go_wp2_with fail
      refine CL.out.mono ?_
      rintro e w1 ⟨rfl, rfl⟩
      go_wp2_with fail
      refine CD.out.mono ?_
      rintro e w1 ⟨rfl, rfl⟩
      go_wp2_with fail
      go_ret
      exact ⟨by rw [HL.out]; rfl, rfl⟩
    | false =>
      have HL : Hid (innerB c = (c == 95)) := hide (by unfold innerB; rw [hl, hd]; rfl)
      have CD := hide (digit_any c w)
      rw [hd] at CD
      go_enter Tryz.func64, Tryz.ntmps64
      go_wp2_with fail
      refine CL.out.mono ?_
      rintro e w1 ⟨rfl, rfl⟩
      go_wp2_with fail
      refine CD.out.mono ?_
      rintro e w1 ⟨rfl, rfl⟩
      go_wp2_with fail
      go_ret
      exact ⟨by rw [HL.out]; rfl, rfl⟩
theorem str_eq (a b : ByteArray) : (a.toList == b.toList) = decide (a = b) := by
  rw [Bool.eq_iff_iff]
  simp only [beq_iff_eq, decide_eq_true_eq]
  constructor
  · intro h
    have := congrArg List.toArray h
    cases a; cases b
    simpa [Go.ByteArray.toList_eq] using this
  · rintro rfl; rfl
abbrev sc (s : ByteArray) : List Value := [.string s]
theorem sc_len (s : ByteArray) : (sc s).length = 1 := rfl
theorem txt_at {w : World} {A : Option Addr} {c : Nat} (l : List ByteArray) (h : Rd w 1 (.slice A l.length c) l.length (l.flatMap sc)) (h0 : 0 < l.length) :
    ∃ b o, A = some ⟨b, o, none⟩ ∧ b < w.heap.size ∧ ∀ i (hi : i < l.length), w.cell? ⟨b, o + i, none⟩ = some (.string l[i]) := by
  obtain ⟨b, o, hA, hb, hc⟩ := h.cells h0
  refine ⟨b, o, hA, hb, fun i hi => ?_⟩
  have := hc (i * 1 + 0) (.string l[i]) (by rw [flat_at sc_len l i 0 hi (by omega)]; rfl)
  simpa using this
/-- Is a text among these? -/
def among (l : List ByteArray) (x : ByteArray) : Bool := l.any fun y => decide (y = x)
theorem among_yes {l : List ByteArray} {x : ByteArray} (h : x ∈ l) : among l x = true := List.any_eq_true.2 ⟨x, h, decide_eq_true rfl⟩
theorem among_no {l : List ByteArray} {x : ByteArray} (h : ¬ x ∈ l) : among l x = false := by
  rw [Bool.eq_false_iff]
  intro hc
  obtain ⟨y, hy, e⟩ := List.any_eq_true.1 hc
  exact h ((of_decide_eq_true e) ▸ hy)
set_option maxRecDepth 100000 in
set_option maxHeartbeats 2000000 in
theorem index_any (v : Value) (l : List ByteArray) (x : ByteArray) (w : World) (h : Rd w 1 v l.length (l.flatMap sc)) (hn : l.length ≤ 100000) :
    Calls Tryz.prog 111 #[v, .string x] w fun e w' => ∃ z : Int, e = .returned (.int .i64 z) ∧ Hid (decide (0 ≤ z) = among l x) ∧ w' = w := by
  obtain ⟨A, c, rfl⟩ := h.shape
  have H := hide h
  obtain ⟨n, hnn⟩ : ∃ n, n = l.length := ⟨_, rfl⟩
  have HN := hide hnn
  rw [← hnn] at hn
  clear h hnn
  rw [← HN.out]
  go_enter Tryz.func111, Tryz.ntmps111
  go_wp2_with fail
  go_loop [5, 8] (fun _ s => ∃ i : Nat, i ≤ n ∧ s = .int .i64 i ∧ Hid (∀ t (ht : t < l.length), t < i → l[t] ≠ x)) (fun _ s => n - (intOf s).toNat)
  case atStart => exact ⟨0, by omega, rfl, hide (fun t _ h => by omega)⟩
  case round =>
    obtain ⟨i, hi, rfl, HI⟩ := hrel
    by_cases hlt : i < n
    · have hil : i < l.length := by have := HN.out; omega
      obtain ⟨b, o, rfl, hb, hc⟩ := txt_at l H.out (by omega)
      have k1 := hc i hil
      by_cases hx : l[i] = x
      · have HM : Hid (x ∈ l) := hide (hx ▸ List.getElem_mem hil)
        rw [hx] at k1
        have e1 : (x.toList == x.toList) = true := by simp
        clear hc hx
        go_wp2_with fail
        go_ret
        exact ⟨i, rfl, hide (by rw [among_yes HM.out]; exact decide_eq_true (by omega)), rfl⟩
      · have e1 : (x.toList == (l[i]).toList) = false := by rw [str_eq]; exact decide_eq_false (fun e => hx e.symm)
        have HI2 : Hid (∀ t (ht : t < l.length), t < i + 1 → l[t] ≠ x) := hide (fun t ht h => by
          rcases Nat.lt_or_ge t i with h3 | h3
          · exact HI.out t ht h3
          · obtain rfl : t = i := by omega
            exact hx)
        generalize l[i] = y at *
        clear hc hx HI
        go_wp2_with fail
        go_round
        case rel => exact ⟨i + 1, by omega, by go_num, HI2⟩
        case measure => simp [intOf]; omega
    · obtain rfl : i = n := by omega
      have HM : Hid (¬ x ∈ l) := hide (fun hm => by
        obtain ⟨t, ht, e⟩ := List.getElem_of_mem hm
        exact HI.out t ht (by have := HN.out; omega) e)
      go_wp2_with fail
      go_ret
      exact ⟨-1, rfl, hide (by rw [among_no HM.out]; rfl), rfl⟩
set_option maxRecDepth 100000 in
theorem contains_any (v : Value) (l : List ByteArray) (x : ByteArray) (w : World) (h : Rd w 1 v l.length (l.flatMap sc)) (hn : l.length ≤ 100000) :
    Calls Tryz.prog 91 #[v, .string x] w fun e w' => e = .returned (.bool (among l x)) ∧ w' = w := by
  have HC := hide (index_any v l x w h hn)
  obtain ⟨A, c, rfl⟩ := h.shape
  clear h
  go_enter Tryz.func91, Tryz.ntmps91
  go_wp2_with fail
  refine HC.out.mono ?_
  rintro e w1 ⟨z, rfl, hz, rfl⟩
  go_wp2_with fail
  go_ret
  exact ⟨by rw [← hz.out]; rfl, rfl⟩
/-- The keywords. -/
def keywords : List ByteArray := ["module", "record", "choice", "service", "saga", "do", "at", "undo", "give", "take", "note", "none", "bool", "int", "text", "list", "opt"].map fun x => x.toUTF8
/-- They lie where they were laid. -/
def Kw (w : World) : Prop := Rd w 1 (.slice (some ⟨0, 0, none⟩) 17 17) 17 (keywords.flatMap sc)
set_option maxRecDepth 100000 in
theorem keyword_any (s : ByteArray) (w : World) (h : Kw w) : Calls Tryz.prog 62 #[.string s] w fun e w' => e = .returned (.bool (among keywords s)) ∧ w' = w := by
  have HC := hide (contains_any (.slice (some ⟨0, 0, none⟩) 17 17) keywords s w h (by decide))
  clear h
  go_enter Tryz.func62, Tryz.ntmps62
  go_wp2_with fail
  refine HC.out.mono ?_
  rintro e w1 ⟨rfl, rfl⟩
  go_wp2_with fail
  go_ret
  exact ⟨rfl, rfl⟩
end Go.Proofs.YtnljdcghaecdaaaGreatDoor
