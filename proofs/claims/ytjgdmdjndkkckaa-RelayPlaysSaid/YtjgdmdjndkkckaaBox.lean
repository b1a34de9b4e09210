/-
  The mailbox's own functions, each by a contract: what none, Put, Take, Len, Room, New answer and leave.
-/
import Derived.Test.YtjgdmdjndkkckaaChecked
import Derived.Test.YtjgdmdjndkkckaaSel
import Derived.Test.YtjgdmdjndkkckaaKit
import Derived.WalkSpells
import Derived.WalkLawsBesides
import Derived.Outline
import Derived.BigQuiet
import Derived.Deep.QuietTactic
import Derived.Conc.LoneSelectN
namespace Go.Proofs.Ytjgdmdjndkkckaa
open Go.Conc Go.RowKit

theorem run_eql_chan {P : Program} {t e : TypeId} {d : ChanDir} (h : P.underlying t = some (.chan d e)) (a b : Option Nat) (w : World) :
    (binOp .eql t (.chan a) (.chan b)).run P w = .ok (.bool (a == b)) w := by
  have h1 : ∀ n : Nat, (Op.equalIn (n + 1) t (.chan a) (.chan b)).run P w = .ok (a == b) w := fun n => by
    simp [Op.equalIn, run_underlying h]
  simp only [binOp]
  simp [Op.equal, Op.maxDepth, h1 9999]

theorem none_box (b c : Nat) (w : World) (hb : w.cell? ⟨b, 0, none⟩ = some (.chan (some c))) :
    Calls Try.prog 25 #[.pointer (some ⟨b, 0, none⟩)] w fun e w' => e = .returned (.bool false) ∧ w = w' := by
  have he := run_eql_chan Try.underlying49
  go_enter Try.func25, Try.ntmps25
  go_wp2
  go_ret
  exact ⟨rfl, rfl⟩
theorem none_zero (b : Nat) (w : World) (hb : w.cell? ⟨b, 0, none⟩ = some (.chan none)) :
    Calls Try.prog 25 #[.pointer (some ⟨b, 0, none⟩)] w fun e w' => e = .returned (.bool true) ∧ w = w' := by
  have he := run_eql_chan Try.underlying49
  go_enter Try.func25, Try.ntmps25
  go_wp2
  go_ret
  exact ⟨rfl, rfl⟩
theorem none_nil (w : World) :
    Calls Try.prog 25 #[.pointer none] w fun e w' => e = .returned (.bool true) ∧ w = w' := by
  go_enter Try.func25, Try.ntmps25
  go_wp2
  go_ret
  exact ⟨rfl, rfl⟩

theorem zero9 (w : World) : (zeroValue 9).run Try.prog w = .ok (.string ⟨#[]⟩) w := by kernel_rfl

theorem put_room (b c cap r s : Nat) (buf : Array Value) (x : ByteArray) (w : World) (hb : w.cell? ⟨b, 0, none⟩ = some (.chan (some c)))
    (hc : w.heap[c]? = some (.chan cap buf false s r false)) (hr : buf.size < cap) :
    Calls Try.prog 11 #[.pointer (some ⟨b, 0, none⟩), .string x] w fun e w' => e = .returned (.int .i64 0) ∧ w' = w.setChan c cap (buf.push (.string x)) false (s + 1) r false := by
  refine calls_of_wpN Try.func11 rfl ?_
  simp only [Try.ntmps11, List.size_toArray, List.length_cons, List.length_nil, Nat.reduceAdd, Nat.reduceSub, Array.replicate_succ, Array.replicate_zero, List.push_toArray, List.append_toArray, List.nil_append, List.cons_append]
  refine wpN_seq ?_
  go_wp2
  refine wpN_seq ?_
  go_wp2_with (go_at_call 25; refine (none_box b c _ hb).mono ?_; rintro e w' ⟨rfl, rfl⟩)
  refine wpN_seq ?_
  go_wp2
  refine wpN_seq' ?_
  refine wpN_select_send_room (x := .tmp 10) (y := .tmp 11) (t := 9) (v := .string x) rfl rfl rfl rfl (zero9 _) hc hr ?_
  simp only [Act.put]
  go_wp2
  refine wpN_of ?_
  go_wp2
  go_ret
  exact ⟨rfl, rfl⟩
theorem put_full (b c cap r s : Nat) (buf : Array Value) (x : ByteArray) (w : World) (hb : w.cell? ⟨b, 0, none⟩ = some (.chan (some c)))
    (hc : w.heap[c]? = some (.chan cap buf false s r false)) (hr : cap ≤ buf.size) :
    Calls Try.prog 11 #[.pointer (some ⟨b, 0, none⟩), .string x] w fun e w' => e = .returned (.int .i64 6) ∧ w = w' := by
  refine calls_of_wpN Try.func11 rfl ?_
  simp only [Try.ntmps11, List.size_toArray, List.length_cons, List.length_nil, Nat.reduceAdd, Nat.reduceSub, Array.replicate_succ, Array.replicate_zero, List.push_toArray, List.append_toArray, List.nil_append, List.cons_append]
  refine wpN_seq ?_
  go_wp2
  refine wpN_seq ?_
  go_wp2_with (go_at_call 25; refine (none_box b c _ hb).mono ?_; rintro e w' ⟨rfl, rfl⟩)
  refine wpN_seq ?_
  go_wp2
  refine wpN_seq' ?_
  refine wpN_select_send_full (x := .tmp 10) (y := .tmp 11) (t := 9) (v := .string x) rfl rfl rfl rfl (zero9 _) hc hr ?_
  simp only [Act.put]
  go_wp2
  refine wpN_of ?_
  go_wp2
  go_ret
  exact ⟨rfl, rfl⟩
theorem put_zero (b : Nat) (x : ByteArray) (w : World) (hb : w.cell? ⟨b, 0, none⟩ = some (.chan none)) :
    Calls Try.prog 11 #[.pointer (some ⟨b, 0, none⟩), .string x] w fun e w' => e = .returned (.int .i64 2) ∧ w = w' := by
  go_enter Try.func11, Try.ntmps11
  go_wp2_with (go_at_call 25; refine (none_zero b _ hb).mono ?_; rintro e w' ⟨rfl, rfl⟩)
  go_ret
  exact ⟨rfl, rfl⟩
theorem put_nil (x : ByteArray) (w : World) :
    Calls Try.prog 11 #[.pointer none, .string x] w fun e w' => e = .returned (.int .i64 2) ∧ w = w' := by
  go_enter Try.func11, Try.ntmps11
  go_wp2_with (go_at_call 25; refine (none_nil _).mono ?_; rintro e w' ⟨rfl, rfl⟩)
  go_ret
  exact ⟨rfl, rfl⟩

theorem take_some (b c cap r s : Nat) (buf : Array Value) (x : ByteArray) (w : World) (hb : w.cell? ⟨b, 0, none⟩ = some (.chan (some c)))
    (hc : w.heap[c]? = some (.chan cap buf false s r false)) (hr : 0 < buf.size) (hx : buf.getD 0 undef = .string x) :
    Calls Try.prog 12 #[.pointer (some ⟨b, 0, none⟩)] w fun e w' => e = .returned (.tuple #[.string x, .int .i64 0]) ∧ w' = w.setChan c cap (buf.extract 1 buf.size) false s (r + 1) false := by
  have HX := hide hx
  clear hx
  refine calls_of_wpN Try.func12 rfl ?_
  simp only [Try.ntmps12, List.size_toArray, List.length_cons, List.length_nil, Nat.reduceAdd, Nat.reduceSub, Array.replicate_succ, Array.replicate_zero, List.push_toArray, List.append_toArray, List.nil_append, List.cons_append]
  refine wpN_seq ?_
  go_wp2
  refine wpN_seq ?_
  go_wp2
  refine wpN_seq ?_
  go_wp2_with (go_at_call 25; refine (none_box b c _ hb).mono ?_; rintro e w' ⟨rfl, rfl⟩)
  refine wpN_seq ?_
  go_wp2
  refine wpN_seq' ?_
  refine wpN_select_recv_buf (x := .tmp 12) (t := 9) rfl rfl rfl (zero9 _) hc hr ?_
  rw [HX.out]
  simp only [Act.put]
  go_wp2
  refine wpN_of ?_
  go_wp2
  go_ret2
  exact ⟨rfl, rfl⟩
theorem take_none (b c cap r s : Nat) (w : World) (hb : w.cell? ⟨b, 0, none⟩ = some (.chan (some c)))
    (hc : w.heap[c]? = some (.chan cap #[] false s r false)) :
    Calls Try.prog 12 #[.pointer (some ⟨b, 0, none⟩)] w fun e w' => e = .returned (.tuple #[.string ⟨#[]⟩, .int .i64 4]) ∧ w = w' := by
  refine calls_of_wpN Try.func12 rfl ?_
  simp only [Try.ntmps12, List.size_toArray, List.length_cons, List.length_nil, Nat.reduceAdd, Nat.reduceSub, Array.replicate_succ, Array.replicate_zero, List.push_toArray, List.append_toArray, List.nil_append, List.cons_append]
  refine wpN_seq ?_
  go_wp2
  refine wpN_seq ?_
  go_wp2
  refine wpN_seq ?_
  go_wp2_with (go_at_call 25; refine (none_box b c _ hb).mono ?_; rintro e w' ⟨rfl, rfl⟩)
  refine wpN_seq ?_
  go_wp2
  refine wpN_seq' ?_
  refine wpN_select_recv_none (x := .tmp 12) (t := 9) rfl rfl rfl (zero9 _) hc ?_
  simp only [Act.put]
  go_wp2
  refine wpN_of ?_
  go_wp2
  go_ret2
  exact ⟨rfl, rfl⟩
theorem take_zero (b : Nat) (w : World) (hb : w.cell? ⟨b, 0, none⟩ = some (.chan none)) :
    Calls Try.prog 12 #[.pointer (some ⟨b, 0, none⟩)] w fun e w' => e = .returned (.tuple #[.string ⟨#[]⟩, .int .i64 2]) ∧ w = w' := by
  go_enter Try.func12, Try.ntmps12
  go_wp2_with (go_at_call 25; refine (none_zero b _ hb).mono ?_; rintro e w' ⟨rfl, rfl⟩)
  go_ret2
  exact ⟨rfl, rfl⟩
theorem take_nil (w : World) :
    Calls Try.prog 12 #[.pointer none] w fun e w' => e = .returned (.tuple #[.string ⟨#[]⟩, .int .i64 2]) ∧ w = w' := by
  go_enter Try.func12, Try.ntmps12
  go_wp2_with (go_at_call 25; refine (none_nil _).mono ?_; rintro e w' ⟨rfl, rfl⟩)
  go_ret2
  exact ⟨rfl, rfl⟩

theorem len_box (b c cap r s : Nat) (buf : Array Value) (w : World) (hb : w.cell? ⟨b, 0, none⟩ = some (.chan (some c)))
    (hc : w.heap[c]? = some (.chan cap buf false s r false)) :
    Calls Try.prog 13 #[.pointer (some ⟨b, 0, none⟩)] w fun e w' => e = .returned (.int .i64 buf.size) ∧ w = w' := by
  have hl := fun ty => run_len_chan (P := Try.prog) 49 ty Try.underlying49 hc
  go_enter Try.func13, Try.ntmps13
  go_wp2_with (go_at_call 25; refine (none_box b c _ hb).mono ?_; rintro e w' ⟨rfl, rfl⟩)
  go_ret
  exact ⟨rfl, rfl⟩
theorem len_zero (b : Nat) (w : World) (hb : w.cell? ⟨b, 0, none⟩ = some (.chan none)) :
    Calls Try.prog 13 #[.pointer (some ⟨b, 0, none⟩)] w fun e w' => e = .returned (.int .i64 0) ∧ w = w' := by
  go_enter Try.func13, Try.ntmps13
  go_wp2_with (go_at_call 25; refine (none_zero b _ hb).mono ?_; rintro e w' ⟨rfl, rfl⟩)
  go_ret
  exact ⟨rfl, rfl⟩
theorem len_nil (w : World) :
    Calls Try.prog 13 #[.pointer none] w fun e w' => e = .returned (.int .i64 0) ∧ w = w' := by
  go_enter Try.func13, Try.ntmps13
  go_wp2_with (go_at_call 25; refine (none_nil _).mono ?_; rintro e w' ⟨rfl, rfl⟩)
  go_ret
  exact ⟨rfl, rfl⟩
end Go.Proofs.Ytjgdmdjndkkckaa
