/-
  Mailboxes that are none: what each function answers of them; Either.
-/
import Derived.Test.YtjgdmdjndkkckaaMove
import Derived.LoopN
namespace Go.Proofs.Ytjgdmdjndkkckaa
open Go.Conc Go.RowKit

/-- No mailbox: nil, or the zero one. -/
def NoBox (w : World) (p : Option Addr) : Prop := p = none ∨ ∃ b, p = some ⟨b, 0, none⟩ ∧ w.heap[b]? = some (.cells #[.chan none] 51 (0, 0))

theorem zero_cell {w : World} {b : Nat} (h : w.heap[b]? = some (.cells #[.chan none] 51 (0, 0))) : w.cell? ⟨b, 0, none⟩ = some (.chan none) := by
  simp [World.cell?, h]

theorem none_no {w : World} {p : Option Addr} (h : NoBox w p) : Calls Try.prog 25 #[.pointer p] w fun e w' => e = .returned (.bool true) ∧ w = w' := by
  rcases h with rfl | ⟨b, rfl, h⟩
  · exact none_nil w
  · exact none_zero b w (zero_cell h)
theorem put_nobox {w : World} {p : Option Addr} (h : NoBox w p) (x : ByteArray) : Calls Try.prog 11 #[.pointer p, .string x] w fun e w' => e = .returned (.int .i64 2) ∧ w = w' := by
  rcases h with rfl | ⟨b, rfl, h⟩
  · exact put_nil x w
  · exact put_zero b x w (zero_cell h)
theorem take_nobox {w : World} {p : Option Addr} (h : NoBox w p) : Calls Try.prog 12 #[.pointer p] w fun e w' => e = .returned (.tuple #[.string ⟨#[]⟩, .int .i64 2]) ∧ w = w' := by
  rcases h with rfl | ⟨b, rfl, h⟩
  · exact take_nil w
  · exact take_zero b w (zero_cell h)
theorem len_nobox {w : World} {p : Option Addr} (h : NoBox w p) : Calls Try.prog 13 #[.pointer p] w fun e w' => e = .returned (.int .i64 0) ∧ w = w' := by
  rcases h with rfl | ⟨b, rfl, h⟩
  · exact len_nil w
  · exact len_zero b w (zero_cell h)
theorem room_nobox {w : World} {p : Option Addr} (h : NoBox w p) : Calls Try.prog 10 #[.pointer p] w fun e w' => e = .returned (.int .i64 0) ∧ w = w' := by
  rcases h with rfl | ⟨b, rfl, h⟩
  · exact room_nil w
  · exact room_zero b w (zero_cell h)
theorem all_nobox {w : World} {p : Option Addr} (h : NoBox w p) : Calls Try.prog 14 #[.pointer p] w fun e w' => e = .returned (.slice none 0 0) ∧ w = w' := by
  have H := hide h
  clear h
  go_enter Try.func14, Try.ntmps14
  go_wp2
  refine wp_loop_rounds 1 ?_
  rw [rounds_succ]
  go_wp2_with fail
  refine (take_nobox H.out).mono ?_
  rintro e w' ⟨rfl, rfl⟩
  go_wp2_with fail
  go_ret
  exact ⟨rfl, rfl⟩

/-- Move from none, or to none, or to itself. -/
theorem move_from_no {w : World} {p : Option Addr} (h : NoBox w p) (q : Option Addr) (most : Int) : Calls Try.prog 16 #[.pointer p, .pointer q, .int .i64 most] w fun e w' => e = .returned (.int .i64 0) ∧ w = w' := by
  have H := hide h
  clear h
  go_enter Try.func16, Try.ntmps16
  go_wp2_with fail
  refine (none_no H.out).mono ?_
  rintro e w' ⟨rfl, rfl⟩
  go_wp2_with fail
  go_ret
  exact ⟨rfl, rfl⟩
theorem move_to_no {w : World} {b c cap : Nat} {l : List ByteArray} (hb : IsBox w b c cap l) {q : Option Addr} (h : NoBox w q) (most : Int) :
    Calls Try.prog 16 #[.pointer (some ⟨b, 0, none⟩), .pointer q, .int .i64 most] w fun e w' => e = .returned (.int .i64 0) ∧ w = w' := by
  have H := hide h
  clear h
  have k := hb.cell
  go_enter Try.func16, Try.ntmps16
  go_wp2_with fail
  refine (none_box b c _ k).mono ?_
  rintro e w' ⟨rfl, rfl⟩
  go_wp2_with fail
  refine (none_no H.out).mono ?_
  rintro e w' ⟨rfl, rfl⟩
  go_wp2_with fail
  go_ret
  exact ⟨rfl, rfl⟩
theorem move_self {w : World} {b c cap : Nat} {l : List ByteArray} (hb : IsBox w b c cap l) (most : Int) :
    Calls Try.prog 16 #[.pointer (some ⟨b, 0, none⟩), .pointer (some ⟨b, 0, none⟩), .int .i64 most] w fun e w' => e = .returned (.int .i64 0) ∧ w = w' := by
  have k := hb.cell
  obtain ⟨i51, hi51, hs51⟩ := Option.map_eq_some_iff.1 ptr_info
  have hne := run_eql_ptr_same (P := Try.prog) w ⟨b, 0, none⟩ Try.underlying25 hi51
  clear hi51 hs51
  go_enter Try.func16, Try.ntmps16
  go_wp2_with fail
  refine (none_box b c _ k).mono ?_
  rintro e w' ⟨rfl, rfl⟩
  go_wp2_with fail
  refine (none_box b c _ k).mono ?_
  rintro e w' ⟨rfl, rfl⟩
  go_wp2_with fail
  go_ret
  exact ⟨rfl, rfl⟩

/-- Nothing can be taken of it. -/
def Bare (w : World) (p : Option Addr) : Prop := NoBox w p ∨ ∃ b c cap, p = some ⟨b, 0, none⟩ ∧ IsBox w b c cap []
def BarePost (w : World) (e : Ending) (w' : World) : Prop := ∃ k : Int, e = .returned (.tuple #[.string ⟨#[]⟩, .int .i64 k]) ∧ (k == 0) = false ∧ w = w'
theorem take_bare {w : World} {p : Option Addr} (h : Bare w p) : Calls Try.prog 12 #[.pointer p] w (BarePost w) := by
  rcases h with h | ⟨b, c, cap, rfl, h⟩
  · exact (take_nobox h).mono fun _ _ ⟨a, b⟩ => ⟨2, a, rfl, b⟩
  · exact (take_no b c cap w h).mono fun _ _ ⟨a, b⟩ => ⟨4, a, rfl, b⟩

theorem ix0 (p q : Option Addr) (w : World) : (Instr.index 66 (.agg #[.pointer p, .pointer q]) (.int .i64 0)).run Try.prog w = .ok (.pointer p) w := by kernel_rfl
theorem ix1 (p q : Option Addr) (w : World) : (Instr.index 66 (.agg #[.pointer p, .pointer q]) (.int .i64 1)).run Try.prog w = .ok (.pointer q) w := by kernel_rfl

theorem either_none {w : World} {p q : Option Addr} (hp : NoBox w p) (hq : NoBox w q) :
    Calls Try.prog 19 #[.pointer p, .pointer q] w fun e w' => e = .returned (.tuple #[.string ⟨#[]⟩, .int .i64 0, .int .i64 2]) ∧ w = w' := by
  have HP := hide hp
  have HQ := hide hq
  clear hp hq
  go_enter Try.func19, Try.ntmps19
  go_wp2_with fail
  refine (none_no HP.out).mono ?_
  rintro e w' ⟨rfl, rfl⟩
  go_wp2_with fail
  refine (none_no HQ.out).mono ?_
  rintro e w' ⟨rfl, rfl⟩
  go_wp2_with fail
  go_ret3
  exact ⟨rfl, rfl⟩

set_option maxHeartbeats 400000 in
theorem either_first {w : World} {b c cap : Nat} {x : ByteArray} {l : List ByteArray} (hb : IsBox w b c cap (x :: l)) (q : Option Addr) :
    Calls Try.prog 19 #[.pointer (some ⟨b, 0, none⟩), .pointer q] w fun e w' => e = .returned (.tuple #[.string x, .int .i64 0, .int .i64 0]) ∧ BoxTo w b c cap l w' := by
  have k := hb.cell
  have i0 := ix0 (some ⟨b, 0, none⟩) q
  go_enter Try.func19, Try.ntmps19
  go_wp2_with fail
  refine (none_box b c _ k).mono ?_
  rintro e w' ⟨rfl, rfl⟩
  go_wp2_with fail
  refine wp_loop_rounds 1 ?_
  rw [rounds_succ]
  go_wp2_with fail
  refine (take_ok b c cap l x _ hb).mono ?_
  rintro e w' ⟨rfl, h'⟩
  go_wp2_with fail
  go_ret3
  exact ⟨rfl, h'⟩

set_option maxHeartbeats 800000 in
theorem either_second_no {w : World} {p : Option Addr} (hp : NoBox w p) {b c cap : Nat} {x : ByteArray} {l : List ByteArray} (hb : IsBox w b c cap (x :: l)) :
    Calls Try.prog 19 #[.pointer p, .pointer (some ⟨b, 0, none⟩)] w fun e w' => e = .returned (.tuple #[.string x, .int .i64 1, .int .i64 0]) ∧ BoxTo w b c cap l w' := by
  have HP := hide hp
  have HB := hide (show Bare w p from .inl hp)
  clear hp
  have k := hb.cell
  have i0 := ix0 p (some ⟨b, 0, none⟩)
  have i1 := ix1 p (some ⟨b, 0, none⟩)
  go_enter Try.func19, Try.ntmps19
  go_wp2_with fail
  refine (none_no HP.out).mono ?_
  rintro e w' ⟨rfl, rfl⟩
  go_wp2_with fail
  refine (none_box b c _ k).mono ?_
  rintro e w' ⟨rfl, rfl⟩
  go_wp2_with fail
  refine wp_loop_rounds 2 ?_
  rw [rounds_succ]
  go_wp2_with fail
  refine (take_bare HB.out).mono ?_
  rintro e w' ⟨j, rfl, hj, rfl⟩
  go_wp2_with fail
  rw [rounds_succ]
  go_wp2_with fail
  refine (take_ok b c cap l x _ hb).mono ?_
  rintro e w' ⟨rfl, h'⟩
  go_wp2_with fail
  go_ret3
  exact ⟨rfl, h'⟩

set_option maxHeartbeats 800000 in
theorem either_second_empty {w : World} {b0 c0 cap0 : Nat} (h0 : IsBox w b0 c0 cap0 []) {b c cap : Nat} {x : ByteArray} {l : List ByteArray} (hb : IsBox w b c cap (x :: l)) :
    Calls Try.prog 19 #[.pointer (some ⟨b0, 0, none⟩), .pointer (some ⟨b, 0, none⟩)] w fun e w' => e = .returned (.tuple #[.string x, .int .i64 1, .int .i64 0]) ∧ BoxTo w b c cap l w' := by
  have HB := hide (show Bare w (some ⟨b0, 0, none⟩) from .inr ⟨_, _, _, rfl, h0⟩)
  have k0 := h0.cell
  have i0 := ix0 (some ⟨b0, 0, none⟩) (some ⟨b, 0, none⟩)
  have i1 := ix1 (some ⟨b0, 0, none⟩) (some ⟨b, 0, none⟩)
  go_enter Try.func19, Try.ntmps19
  go_wp2_with fail
  refine (none_box b0 c0 _ k0).mono ?_
  rintro e w' ⟨rfl, rfl⟩
  go_wp2_with fail
  refine wp_loop_rounds 2 ?_
  rw [rounds_succ]
  go_wp2_with fail
  refine (take_bare HB.out).mono ?_
  rintro e w' ⟨j, rfl, hj, rfl⟩
  go_wp2_with fail
  rw [rounds_succ]
  go_wp2_with fail
  refine (take_ok b c cap l x _ hb).mono ?_
  rintro e w' ⟨rfl, h'⟩
  go_wp2_with fail
  go_ret3
  exact ⟨rfl, h'⟩

set_option maxHeartbeats 800000 in
theorem either_empty_no {w : World} {p : Option Addr} (hp : NoBox w p) {b c cap : Nat} (hb : IsBox w b c cap []) :
    Calls Try.prog 19 #[.pointer p, .pointer (some ⟨b, 0, none⟩)] w fun e w' => e = .returned (.tuple #[.string ⟨#[]⟩, .int .i64 (-1), .int .i64 4]) ∧ w = w' := by
  have HP := hide hp
  have HB := hide (show Bare w p from .inl hp)
  clear hp
  have k := hb.cell
  have i0 := ix0 p (some ⟨b, 0, none⟩)
  have i1 := ix1 p (some ⟨b, 0, none⟩)
  go_enter Try.func19, Try.ntmps19
  go_wp2_with fail
  refine (none_no HP.out).mono ?_
  rintro e w' ⟨rfl, rfl⟩
  go_wp2_with fail
  refine (none_box b c _ k).mono ?_
  rintro e w' ⟨rfl, rfl⟩
  go_wp2_with fail
  refine wp_loop_rounds 3 ?_
  rw [rounds_succ]
  go_wp2_with fail
  refine (take_bare HB.out).mono ?_
  rintro e w' ⟨j, rfl, hj, rfl⟩
  go_wp2_with fail
  rw [rounds_succ]
  go_wp2_with fail
  refine (take_no b c cap _ hb).mono ?_
  rintro e w' ⟨rfl, rfl⟩
  go_wp2_with fail
  rw [rounds_succ]
  go_wp2_with fail
  go_ret3
  exact ⟨rfl, rfl⟩

set_option maxHeartbeats 800000 in
theorem either_empty {w : World} {b0 c0 cap0 : Nat} (h0 : IsBox w b0 c0 cap0 []) {q : Option Addr} (hq : Bare w q) :
    Calls Try.prog 19 #[.pointer (some ⟨b0, 0, none⟩), .pointer q] w fun e w' => e = .returned (.tuple #[.string ⟨#[]⟩, .int .i64 (-1), .int .i64 4]) ∧ w = w' := by
  have HB := hide (show Bare w (some ⟨b0, 0, none⟩) from .inr ⟨_, _, _, rfl, h0⟩)
  have HQ := hide hq
  clear hq
  have k0 := h0.cell
  have i0 := ix0 (some ⟨b0, 0, none⟩) q
  have i1 := ix1 (some ⟨b0, 0, none⟩) q
  go_enter Try.func19, Try.ntmps19
  go_wp2_with fail
  refine (none_box b0 c0 _ k0).mono ?_
  rintro e w' ⟨rfl, rfl⟩
  go_wp2_with fail
  refine wp_loop_rounds 3 ?_
  rw [rounds_succ]
  go_wp2_with fail
  refine (take_bare HB.out).mono ?_
  rintro e w' ⟨j, rfl, hj, rfl⟩
  go_wp2_with fail
  rw [rounds_succ]
  go_wp2_with fail
  refine (take_bare HQ.out).mono ?_
  rintro e w' ⟨j', rfl, hj', rfl⟩
  go_wp2_with fail
  rw [rounds_succ]
  go_wp2_with fail
  go_ret3
  exact ⟨rfl, rfl⟩
end Go.Proofs.Ytjgdmdjndkkckaa
