/-
  table: of each text its place in the list; an empty text takes the key ahead away.
-/
import Derived.Test.YtcaeechlpadboaaAwake
import Derived.Laws.Cover1
namespace Go.Proofs.Ytcaeechlpadboaa
open Go.RowKit Go.Maps Go.Shelf
open MI

theorem str_eq (a b : ByteArray) : (a.toList == b.toList) = decide (a = b) := by
  rw [Bool.eq_iff_iff]
  simp only [beq_iff_eq, decide_eq_true_eq]
  constructor
  · intro h
    have := congrArg List.toArray h
    cases a; cases b
    simpa [Go.ByteArray.toList_eq] using this
  · rintro rfl; rfl
/-- A new block, laid behind the table. -/
theorem Lie.tuck {base : Nat} {w0 w : World} {a b : Thing} {rest : List Thing} (h : Lie base w0 w (a :: b :: rest)) (o : Obj) : Lie base w0 (w.alloc o) (a :: b :: box w.heap.size o :: rest) :=
  (h.alloc o).perm ((List.Perm.swap _ _ _).trans (.cons _ (.swap _ _ _)))
abbrev sbox (b : Nat) (s : ByteArray) : Thing := box b (.cells #[.string s] 9 (0, 0))
abbrev bbox (b : Nat) (x : Bool) : Thing := box b (.cells #[.bool x] 4 (0, 0))

abbrev sc (s : ByteArray) : List Value := [.string s]
theorem sc_len (s : ByteArray) : (sc s).length = 1 := rfl
theorem txt_at {w : World} {A : Option Addr} {c : Nat} (l : List ByteArray) (h : Rd w 1 (.slice A l.length c) l.length (l.flatMap sc)) (h0 : 0 < l.length) :
    ∃ b o, A = some ⟨b, o, none⟩ ∧ b < w.heap.size ∧ ∀ i (hi : i < l.length), w.cell? ⟨b, o + i, none⟩ = some (.string l[i]) := by
  obtain ⟨b, o, hA, hb, hc⟩ := h.cells h0
  refine ⟨b, o, hA, hb, fun i hi => ?_⟩
  have := hc (i * 1 + 0) (.string l[i]) (by rw [flat_at sc_len l i 0 hi (by omega)]; rfl)
  simpa using this
/-- The table of the first so many. -/
def tabOf (l : List ByteArray) : Nat → List MI.Ent
  | 0 => []
  | k + 1 => if (l[k]?.getD k0 = k0 ∧ 0 < k) then del (tabOf l k) (l[k - 1]?.getD k0) else put (tabOf l k) (l[k]?.getD k0) (k : Int)
theorem tab_ok (l : List ByteArray) : ∀ k, MI.Ok (tabOf l k) k
  | 0 => MI.Ok.nil
  | k + 1 => by
    unfold tabOf
    split
    · exact ((tab_ok l k).del _).mono (by omega)
    · exact (tab_ok l k).put _ _
theorem str_empty (a : ByteArray) : (a.toList == []) = decide (a = k0) := by
  rw [← str_eq, Go.ByteArray.toList_eq k0]
set_option maxRecDepth 100000 in
set_option maxHeartbeats 2000000 in
theorem table_any {w0 w : World} {rest : List Thing} (v : Value) (l : List ByteArray) (hl : Rd w0 1 v l.length (l.flatMap sc)) (hn : l.length ≤ 1000) (h : Lie w0.heap.size w0 w rest) :
    Calls Try.prog 24 #[v] w fun e w' => ∃ T v', e = .returned (pt T) ∧ Hid (Lie w0.heap.size w0 w' (tb w0.heap.size T v' false (tabOf l l.length) ++ rest)) := by
  obtain ⟨A, c, rfl⟩ := hl.shape
  have HL := hide hl
  have H := hide h
  obtain ⟨n, hnn⟩ : ∃ n, n = l.length := ⟨_, rfl⟩
  have HN := hide hnn
  rw [← hnn] at hn
  clear hl h hnn
  have hE : ∃ n', n' = n := ⟨_, rfl⟩
  go_enter Try.func24, Try.ntmps24
  go_wp2_with fail
  refine (new_tb H.out).mono ?_
  rintro e w1 ⟨T, v1, rfl, H1⟩
  rw [← HN.out]
  go_wp2_with fail
  clear H
  go_loopw [4] (fun i wr => ∃ k : Nat, k ≤ n ∧ i = .int .i64 k ∧ ∃ v', Lie w0.heap.size w0 wr (tb w0.heap.size T v' false (tabOf l k) ++ rest)) (fun i _ => n - (intOf i).toNat)
  case atStart => exact ⟨0, by omega, rfl, v1, H1.out⟩
  case round =>
    clear H1
    obtain ⟨k, hk, rfl, v2, h2⟩ := hrel
    have H2 := hide h2
    by_cases hlt : k < n
    · have hkl : k < l.length := by have := HN.out; omega
      obtain ⟨b, o, rfl, hb, hc⟩ := txt_at l (HL.out.below h2.below) (by omega)
      have k1 := hc k hkl
      have hlk : l[k]?.getD k0 = l[k] := by rw [List.getElem?_eq_getElem hkl]; rfl
      by_cases hd : l[k] = k0 ∧ 0 < k
      · obtain ⟨hd1, hd2⟩ := hd
        have k2 := hc (k - 1) (by omega)
        rw [hd1] at k1
        have hto : Hid (tabOf l (k + 1) = del (tabOf l k) (l[k - 1])) := hide (by
          rw [tabOf, if_pos ⟨by rw [hlk, hd1], hd2⟩, List.getElem?_eq_getElem (by omega)]; rfl)
        obtain ⟨s, hs⟩ : ∃ s, s = l[k - 1] := ⟨_, rfl⟩
        rw [← hs] at k2 hto
        have hk1 : ((k : Int) - 1).toNat = k - 1 := by omega
        have hk1' : (k : Int) - 1 = ((k - 1 : Nat) : Int) := by omega
        have e1 : ((⟨#[]⟩ : ByteArray).toList == (⟨#[]⟩ : ByteArray).toList) = true := by rw [str_eq]; rfl
        clear hc h2 hlk hd1 hs
        go_wp2_with fail
        refine (del_keep s (tab_ok l k) (by omega) H2.out).mono ?_
        rintro e w3 ⟨rfl, v3, H3⟩
        rw [← hto.out] at H3
        go_wp2_with fail
        go_roundw
        case rel => exact ⟨k + 1, by omega, by go_num, v3, H3.out⟩
        case measure => simp [intOf]; omega
      · obtain ⟨s, hs⟩ : ∃ s, s = l[k] := ⟨_, rfl⟩
        have hto : Hid (tabOf l (k + 1) = put (tabOf l k) s (k : Int)) := hide (by
          rw [tabOf, if_neg (by rw [hlk]; exact hd), hlk, hs])
        rw [← hs] at k1 hd
        by_cases hz : s = k0
        · have hk0 : ¬ (0 : Int) < (k : Int) := fun h => hd ⟨hz, by omega⟩
          have e1 : (s.toList == (⟨#[]⟩ : ByteArray).toList) = true := by rw [str_eq]; exact decide_eq_true hz
          have e2 : (s.toList == []) = true := by rw [str_empty]; exact decide_eq_true hz
          clear hc h2 hlk hd hs hz
          go_wp2_with fail
          refine (set_tb s (k : Int) (tab_ok l k) (by omega) H2.out).mono ?_
          rintro e w3 ⟨rfl, v3, H3⟩
          rw [← hto.out] at H3
          go_wp2_with fail
          go_roundw
          case rel => exact ⟨k + 1, by omega, by go_num, v3, H3.out⟩
          case measure => simp [intOf]; omega
        · have e1 : (s.toList == (⟨#[]⟩ : ByteArray).toList) = false := by rw [str_eq]; exact decide_eq_false hz
          have e2 : (s.toList == []) = false := by rw [str_empty]; exact decide_eq_false hz
          clear hc h2 hlk hd hs
          go_wp2_with fail
          refine (set_tb s (k : Int) (tab_ok l k) (by omega) H2.out).mono ?_
          rintro e w3 ⟨rfl, v3, H3⟩
          rw [← hto.out] at H3
          go_wp2_with fail
          go_roundw
          case rel => exact ⟨k + 1, by omega, by go_num, v3, H3.out⟩
          case measure => simp [intOf]; omega
    · obtain rfl : k = n := by omega
      clear h2
      go_wp2_with fail
      go_ret
      exact ⟨_, _, rfl, by rw [← HN.out]; exact H2⟩
end Go.Proofs.Ytcaeechlpadboaa
