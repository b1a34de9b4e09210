/-
  The mailbox's Room and New.
-/
import Derived.Test.YtjgdmdjndkkckaaBox
namespace Go.Proofs.Ytjgdmdjndkkckaa
open Go.Conc Go.RowKit

theorem room_box (b c cap r s : Nat) (buf : Array Value) (w : World) (hb : w.cell? ⟨b, 0, none⟩ = some (.chan (some c)))
    (hc : w.heap[c]? = some (.chan cap buf false s r false)) (hm : cap ≤ 1024) (hs : buf.size ≤ cap) :
    Calls Try.prog 10 #[.pointer (some ⟨b, 0, none⟩)] w fun e w' => e = .returned (.int .i64 ((cap : Int) - buf.size)) ∧ ∃ n, w.drewN n = w' := by
  have hl := fun n ty => run_len_chan (P := Try.prog) (w := w.drewN n) 49 ty Try.underlying49 hc
  have hk := fun n ty => run_cap_chan (P := Try.prog) (w := w.drewN n) 49 ty Try.underlying49 hc
  go_enter Try.func10, Try.ntmps10
  go_wp2_with (go_at_call 25; refine (none_box b c _ hb).mono ?_; rintro e w' ⟨rfl, rfl⟩)
  go_quiet (fail)
  go_wp2
  go_ret
  exact ⟨rfl, nq, rfl⟩
theorem room_zero (b : Nat) (w : World) (hb : w.cell? ⟨b, 0, none⟩ = some (.chan none)) :
    Calls Try.prog 10 #[.pointer (some ⟨b, 0, none⟩)] w fun e w' => e = .returned (.int .i64 0) ∧ w = w' := by
  go_enter Try.func10, Try.ntmps10
  go_wp2_with (go_at_call 25; refine (none_zero b _ hb).mono ?_; rintro e w' ⟨rfl, rfl⟩)
  go_ret
  exact ⟨rfl, rfl⟩
theorem room_nil (w : World) :
    Calls Try.prog 10 #[.pointer none] w fun e w' => e = .returned (.int .i64 0) ∧ w = w' := by
  go_enter Try.func10, Try.ntmps10
  go_wp2_with (go_at_call 25; refine (none_nil _).mono ?_; rintro e w' ⟨rfl, rfl⟩)
  go_ret
  exact ⟨rfl, rfl⟩

theorem bytes9 : ∃ i, Try.prog.info? 9 = some i ∧ i.bytes = 16 := by
  have h : (Try.prog.info? 9).map (·.bytes) = some 16 := by kernel_rfl
  obtain ⟨i, hi, hb⟩ := Option.map_eq_some_iff.1 h
  exact ⟨i, hi, hb⟩
theorem mk49 (n : Int) (h0 : 1 ≤ n) (h1 : n ≤ 1024) (w : World) : (Instr.makeChan 49 (.int .i64 n)).run Try.prog w = .ok (.chan (some w.heap.size)) (w.alloc (.chan n.toNat #[] false 0 0 false)) := by
  obtain ⟨i, hi, hb⟩ := bytes9
  obtain ⟨m, rfl⟩ := Int.eq_ofNat_of_zero_le (show 0 ≤ n by omega)
  simpa using run_makeChan (P := Try.prog) (w := w) Try.underlying49 hi .i64 m (by omega) (by rw [hb]; omega)

theorem new_ok (n : Int) (h0 : 1 ≤ n) (h1 : n ≤ 1024) (w : World) :
    Calls Try.prog 9 #[.int .i64 n] w fun e w' => e = .returned (.tuple #[.pointer (some ⟨w.heap.size + 1, 0, none⟩), .int .i64 0]) ∧ (w.alloc (.chan n.toNat #[] false 0 0 false)).alloc (.cells #[.chan (some w.heap.size)] 51) = w' := by
  have hk := mk49 n h0 h1
  go_enter Try.func9, Try.ntmps9
  go_wp2
  go_ret2
  exact ⟨rfl, rfl⟩
theorem new_no (n : Int) (h : n < 1 ∨ 1024 < n) (w : World) :
    Calls Try.prog 9 #[.int .i64 n] w fun e w' => e = .returned (.tuple #[.pointer none, .int .i64 1]) ∧ w = w' := by
  rcases h with h | h
  · go_enter Try.func9, Try.ntmps9
    go_wp2
    go_ret2
    exact ⟨rfl, rfl⟩
  · have h' : ¬ n < 1 := by omega
    go_enter Try.func9, Try.ntmps9
    go_wp2
    go_ret2
    exact ⟨rfl, rfl⟩
end Go.Proofs.Ytjgdmdjndkkckaa
