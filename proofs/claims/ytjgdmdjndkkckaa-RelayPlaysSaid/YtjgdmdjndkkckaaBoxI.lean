/-
  The same contracts for mailboxes of numbers (written by mkint.py from those for texts).
-/
import Derived.Test.YtjgdmdjndkkckaaBox3
namespace Go.Proofs.Ytjgdmdjndkkckaa.NI
open Go.Conc Go.RowKit
theorem none_box (b c : Nat) (w : World) (hb : w.cell? ⟨b, 0, none⟩ = some (.chan (some c))) :
    Calls Try.prog 33 #[.pointer (some ⟨b, 0, none⟩)] w fun e w' => e = .returned (.bool false) ∧ w = w' := by
  have he := run_eql_chan Try.underlying67
  go_enter Try.func33, Try.ntmps33
  go_wp2
  go_ret
  exact ⟨rfl, rfl⟩
theorem none_zero (b : Nat) (w : World) (hb : w.cell? ⟨b, 0, none⟩ = some (.chan none)) :
    Calls Try.prog 33 #[.pointer (some ⟨b, 0, none⟩)] w fun e w' => e = .returned (.bool true) ∧ w = w' := by
  have he := run_eql_chan Try.underlying67
  go_enter Try.func33, Try.ntmps33
  go_wp2
  go_ret
  exact ⟨rfl, rfl⟩
theorem none_nil (w : World) :
    Calls Try.prog 33 #[.pointer none] w fun e w' => e = .returned (.bool true) ∧ w = w' := by
  go_enter Try.func33, Try.ntmps33
  go_wp2
  go_ret
  exact ⟨rfl, rfl⟩

theorem zero3 (w : World) : (zeroValue 3).run Try.prog w = .ok (.int .i64 0) w := by kernel_rfl

theorem put_room (b c cap r s : Nat) (buf : Array Value) (x : Int) (w : World) (hb : w.cell? ⟨b, 0, none⟩ = some (.chan (some c)))
    (hc : w.heap[c]? = some (.chan cap buf false s r false)) (hr : buf.size < cap) :
    Calls Try.prog 21 #[.pointer (some ⟨b, 0, none⟩), .int .i64 x] w fun e w' => e = .returned (.int .i64 0) ∧ w' = w.setChan c cap (buf.push (.int .i64 x)) false (s + 1) r false := by
  refine calls_of_wpN Try.func21 rfl ?_
  simp only [Try.ntmps21, List.size_toArray, List.length_cons, List.length_nil, Nat.reduceAdd, Nat.reduceSub, Array.replicate_succ, Array.replicate_zero, List.push_toArray, List.append_toArray, List.nil_append, List.cons_append]
  refine wpN_seq ?_
  go_wp2
  refine wpN_seq ?_
  go_wp2_with (go_at_call 33; refine (none_box b c _ hb).mono ?_; rintro e w' ⟨rfl, rfl⟩)
  refine wpN_seq ?_
  go_wp2
  refine wpN_seq' ?_
  refine wpN_select_send_room (x := .tmp 10) (y := .tmp 11) (t := 3) (v := .int .i64 x) rfl rfl rfl rfl (zero3 _) hc hr ?_
  simp only [Act.put]
  go_wp2
  refine wpN_of ?_
  go_wp2
  go_ret
  exact ⟨rfl, rfl⟩
theorem put_full (b c cap r s : Nat) (buf : Array Value) (x : Int) (w : World) (hb : w.cell? ⟨b, 0, none⟩ = some (.chan (some c)))
    (hc : w.heap[c]? = some (.chan cap buf false s r false)) (hr : cap ≤ buf.size) :
    Calls Try.prog 21 #[.pointer (some ⟨b, 0, none⟩), .int .i64 x] w fun e w' => e = .returned (.int .i64 6) ∧ w = w' := by
  refine calls_of_wpN Try.func21 rfl ?_
  simp only [Try.ntmps21, List.size_toArray, List.length_cons, List.length_nil, Nat.reduceAdd, Nat.reduceSub, Array.replicate_succ, Array.replicate_zero, List.push_toArray, List.append_toArray, List.nil_append, List.cons_append]
  refine wpN_seq ?_
  go_wp2
  refine wpN_seq ?_
  go_wp2_with (go_at_call 33; refine (none_box b c _ hb).mono ?_; rintro e w' ⟨rfl, rfl⟩)
  refine wpN_seq ?_
  go_wp2
  refine wpN_seq' ?_
  refine wpN_select_send_full (x := .tmp 10) (y := .tmp 11) (t := 3) (v := .int .i64 x) rfl rfl rfl rfl (zero3 _) hc hr ?_
  simp only [Act.put]
  go_wp2
  refine wpN_of ?_
  go_wp2
  go_ret
  exact ⟨rfl, rfl⟩
theorem put_zero (b : Nat) (x : Int) (w : World) (hb : w.cell? ⟨b, 0, none⟩ = some (.chan none)) :
    Calls Try.prog 21 #[.pointer (some ⟨b, 0, none⟩), .int .i64 x] w fun e w' => e = .returned (.int .i64 2) ∧ w = w' := by
  go_enter Try.func21, Try.ntmps21
  go_wp2_with (go_at_call 33; refine (none_zero b _ hb).mono ?_; rintro e w' ⟨rfl, rfl⟩)
  go_ret
  exact ⟨rfl, rfl⟩
theorem put_nil (x : Int) (w : World) :
    Calls Try.prog 21 #[.pointer none, .int .i64 x] w fun e w' => e = .returned (.int .i64 2) ∧ w = w' := by
  go_enter Try.func21, Try.ntmps21
  go_wp2_with (go_at_call 33; refine (none_nil _).mono ?_; rintro e w' ⟨rfl, rfl⟩)
  go_ret
  exact ⟨rfl, rfl⟩

theorem take_some (b c cap r s : Nat) (buf : Array Value) (x : Int) (w : World) (hb : w.cell? ⟨b, 0, none⟩ = some (.chan (some c)))
    (hc : w.heap[c]? = some (.chan cap buf false s r false)) (hr : 0 < buf.size) (hx : buf.getD 0 undef = .int .i64 x) :
    Calls Try.prog 22 #[.pointer (some ⟨b, 0, none⟩)] w fun e w' => e = .returned (.tuple #[.int .i64 x, .int .i64 0]) ∧ w' = w.setChan c cap (buf.extract 1 buf.size) false s (r + 1) false := by
  have HX := hide hx
  clear hx
  refine calls_of_wpN Try.func22 rfl ?_
  simp only [Try.ntmps22, List.size_toArray, List.length_cons, List.length_nil, Nat.reduceAdd, Nat.reduceSub, Array.replicate_succ, Array.replicate_zero, List.push_toArray, List.append_toArray, List.nil_append, List.cons_append]
  refine wpN_seq ?_
  go_wp2
  refine wpN_seq ?_
  go_wp2
  refine wpN_seq ?_
  go_wp2_with (go_at_call 33; refine (none_box b c _ hb).mono ?_; rintro e w' ⟨rfl, rfl⟩)
  refine wpN_seq ?_
  go_wp2
  refine wpN_seq' ?_
  refine wpN_select_recv_buf (x := .tmp 12) (t := 3) rfl rfl rfl (zero3 _) hc hr ?_
  rw [HX.out]
  simp only [Act.put]
  go_wp2
  refine wpN_of ?_
  go_wp2
  go_ret2
  exact ⟨rfl, rfl⟩
theorem take_none (b c cap r s : Nat) (w : World) (hb : w.cell? ⟨b, 0, none⟩ = some (.chan (some c)))
    (hc : w.heap[c]? = some (.chan cap #[] false s r false)) :
    Calls Try.prog 22 #[.pointer (some ⟨b, 0, none⟩)] w fun e w' => e = .returned (.tuple #[.int .i64 0, .int .i64 4]) ∧ w = w' := by
  refine calls_of_wpN Try.func22 rfl ?_
  simp only [Try.ntmps22, List.size_toArray, List.length_cons, List.length_nil, Nat.reduceAdd, Nat.reduceSub, Array.replicate_succ, Array.replicate_zero, List.push_toArray, List.append_toArray, List.nil_append, List.cons_append]
  refine wpN_seq ?_
  go_wp2
  refine wpN_seq ?_
  go_wp2
  refine wpN_seq ?_
  go_wp2_with (go_at_call 33; refine (none_box b c _ hb).mono ?_; rintro e w' ⟨rfl, rfl⟩)
  refine wpN_seq ?_
  go_wp2
  refine wpN_seq' ?_
  refine wpN_select_recv_none (x := .tmp 12) (t := 3) rfl rfl rfl (zero3 _) hc ?_
  simp only [Act.put]
  go_wp2
  refine wpN_of ?_
  go_wp2
  go_ret2
  exact ⟨rfl, rfl⟩
theorem take_zero (b : Nat) (w : World) (hb : w.cell? ⟨b, 0, none⟩ = some (.chan none)) :
    Calls Try.prog 22 #[.pointer (some ⟨b, 0, none⟩)] w fun e w' => e = .returned (.tuple #[.int .i64 0, .int .i64 2]) ∧ w = w' := by
  go_enter Try.func22, Try.ntmps22
  go_wp2_with (go_at_call 33; refine (none_zero b _ hb).mono ?_; rintro e w' ⟨rfl, rfl⟩)
  go_ret2
  exact ⟨rfl, rfl⟩
theorem take_nil (w : World) :
    Calls Try.prog 22 #[.pointer none] w fun e w' => e = .returned (.tuple #[.int .i64 0, .int .i64 2]) ∧ w = w' := by
  go_enter Try.func22, Try.ntmps22
  go_wp2_with (go_at_call 33; refine (none_nil _).mono ?_; rintro e w' ⟨rfl, rfl⟩)
  go_ret2
  exact ⟨rfl, rfl⟩

theorem len_box (b c cap r s : Nat) (buf : Array Value) (w : World) (hb : w.cell? ⟨b, 0, none⟩ = some (.chan (some c)))
    (hc : w.heap[c]? = some (.chan cap buf false s r false)) :
    Calls Try.prog 23 #[.pointer (some ⟨b, 0, none⟩)] w fun e w' => e = .returned (.int .i64 buf.size) ∧ w = w' := by
  have hl := fun ty => run_len_chan (P := Try.prog) 67 ty Try.underlying67 hc
  go_enter Try.func23, Try.ntmps23
  go_wp2_with (go_at_call 33; refine (none_box b c _ hb).mono ?_; rintro e w' ⟨rfl, rfl⟩)
  go_ret
  exact ⟨rfl, rfl⟩
theorem len_zero (b : Nat) (w : World) (hb : w.cell? ⟨b, 0, none⟩ = some (.chan none)) :
    Calls Try.prog 23 #[.pointer (some ⟨b, 0, none⟩)] w fun e w' => e = .returned (.int .i64 0) ∧ w = w' := by
  go_enter Try.func23, Try.ntmps23
  go_wp2_with (go_at_call 33; refine (none_zero b _ hb).mono ?_; rintro e w' ⟨rfl, rfl⟩)
  go_ret
  exact ⟨rfl, rfl⟩
theorem len_nil (w : World) :
    Calls Try.prog 23 #[.pointer none] w fun e w' => e = .returned (.int .i64 0) ∧ w = w' := by
  go_enter Try.func23, Try.ntmps23
  go_wp2_with (go_at_call 33; refine (none_nil _).mono ?_; rintro e w' ⟨rfl, rfl⟩)
  go_ret
  exact ⟨rfl, rfl⟩


theorem room_box (b c cap r s : Nat) (buf : Array Value) (w : World) (hb : w.cell? ⟨b, 0, none⟩ = some (.chan (some c)))
    (hc : w.heap[c]? = some (.chan cap buf false s r false)) (hm : cap ≤ 1024) (hs : buf.size ≤ cap) :
    Calls Try.prog 24 #[.pointer (some ⟨b, 0, none⟩)] w fun e w' => e = .returned (.int .i64 ((cap : Int) - buf.size)) ∧ ∃ n, w.drewN n = w' := by
  have hl := fun n ty => run_len_chan (P := Try.prog) (w := w.drewN n) 67 ty Try.underlying67 hc
  have hk := fun n ty => run_cap_chan (P := Try.prog) (w := w.drewN n) 67 ty Try.underlying67 hc
  go_enter Try.func24, Try.ntmps24
  go_wp2_with (go_at_call 33; refine (none_box b c _ hb).mono ?_; rintro e w' ⟨rfl, rfl⟩)
  go_quiet (fail)
  go_wp2
  go_ret
  exact ⟨rfl, nq, rfl⟩
theorem room_zero (b : Nat) (w : World) (hb : w.cell? ⟨b, 0, none⟩ = some (.chan none)) :
    Calls Try.prog 24 #[.pointer (some ⟨b, 0, none⟩)] w fun e w' => e = .returned (.int .i64 0) ∧ w = w' := by
  go_enter Try.func24, Try.ntmps24
  go_wp2_with (go_at_call 33; refine (none_zero b _ hb).mono ?_; rintro e w' ⟨rfl, rfl⟩)
  go_ret
  exact ⟨rfl, rfl⟩
theorem room_nil (w : World) :
    Calls Try.prog 24 #[.pointer none] w fun e w' => e = .returned (.int .i64 0) ∧ w = w' := by
  go_enter Try.func24, Try.ntmps24
  go_wp2_with (go_at_call 33; refine (none_nil _).mono ?_; rintro e w' ⟨rfl, rfl⟩)
  go_ret
  exact ⟨rfl, rfl⟩

theorem bytes3 : ∃ i, Try.prog.info? 3 = some i ∧ i.bytes = 8 := by
  have h : (Try.prog.info? 3).map (·.bytes) = some 8 := by kernel_rfl
  obtain ⟨i, hi, hb⟩ := Option.map_eq_some_iff.1 h
  exact ⟨i, hi, hb⟩
theorem mk67 (n : Int) (h0 : 1 ≤ n) (h1 : n ≤ 1024) (w : World) : (Instr.makeChan 67 (.int .i64 n)).run Try.prog w = .ok (.chan (some w.heap.size)) (w.alloc (.chan n.toNat #[] false 0 0 false)) := by
  obtain ⟨i, hi, hb⟩ := bytes3
  obtain ⟨m, rfl⟩ := Int.eq_ofNat_of_zero_le (show 0 ≤ n by omega)
  simpa using run_makeChan (P := Try.prog) (w := w) Try.underlying67 hi .i64 m (by omega) (by rw [hb]; omega)

theorem new_ok (n : Int) (h0 : 1 ≤ n) (h1 : n ≤ 1024) (w : World) :
    Calls Try.prog 20 #[.int .i64 n] w fun e w' => e = .returned (.tuple #[.pointer (some ⟨w.heap.size + 1, 0, none⟩), .int .i64 0]) ∧ (w.alloc (.chan n.toNat #[] false 0 0 false)).alloc (.cells #[.chan (some w.heap.size)] 69) = w' := by
  have hk := mk67 n h0 h1
  go_enter Try.func20, Try.ntmps20
  go_wp2
  go_ret2
  exact ⟨rfl, rfl⟩
theorem new_no (n : Int) (h : n < 1 ∨ 1024 < n) (w : World) :
    Calls Try.prog 20 #[.int .i64 n] w fun e w' => e = .returned (.tuple #[.pointer none, .int .i64 1]) ∧ w = w' := by
  rcases h with h | h
  · go_enter Try.func20, Try.ntmps20
    go_wp2
    go_ret2
    exact ⟨rfl, rfl⟩
  · have h' : ¬ n < 1 := by omega
    go_enter Try.func20, Try.ntmps20
    go_wp2
    go_ret2
    exact ⟨rfl, rfl⟩


/-- The cells of texts. -/
def strs (l : List Int) : List Value := l.map (Value.int .i64)
theorem strs_length (l : List Int) : (strs l).length = l.length := by simp [strs]
theorem strs_append (l m : List Int) : strs (l ++ m) = strs l ++ strs m := by simp [strs]

/-- Block b is a mailbox over the channel c of that size, which holds these texts. -/
def IsBox (w : World) (b c cap : Nat) (l : List Int) : Prop :=
  w.heap[b]? = some (.cells #[.chan (some c)] 69 (0, 0)) ∧ ∃ s r, w.heap[c]? = some (.chan cap (strs l).toArray false s r false)

section
variable {w w' : World} {b c cap : Nat} {l : List Int}
theorem IsBox.cell (h : IsBox w b c cap l) : w.cell? ⟨b, 0, none⟩ = some (.chan (some c)) := by
  simp [World.cell?, h.1]
theorem IsBox.turn {S : Nat → Prop} (h : IsBox w b c cap l) (t : Turn S w w') (hb : ¬ S b) (hc : ¬ S c) : IsBox w' b c cap l := by
  obtain ⟨h1, s, r, h2⟩ := h
  exact ⟨t.obj h1 hb, s, r, t.obj h2 hc⟩
theorem IsBox.lt (h : IsBox w b c cap l) : b < w.heap.size ∧ c < w.heap.size := by
  obtain ⟨h1, s, r, h2⟩ := h
  exact ⟨(Array.getElem?_eq_some_iff.1 h1).1, (Array.getElem?_eq_some_iff.1 h2).1⟩
theorem IsBox.ne (h : IsBox w b c cap l) : b ≠ c := by
  rintro rfl
  obtain ⟨h1, s, r, h2⟩ := h
  rw [h1] at h2
  cases h2
theorem IsBox.row (h : IsBox w b c cap l) {base n : Nat} {v : Value} {xs : List Value} (ho : w.ownsRow base 9 1 v n xs) : ∀ g, v.ownBlock = some g → g ≠ b ∧ g ≠ c := by
  obtain ⟨h1, s, r, h2⟩ := h
  intro g hg
  refine ⟨fun e => ?_, fun e => ?_⟩
  · subst e; exact ownsRow_other ho h1 (fun _ _ e => by cases e) hg
  · subst e; exact ownsRow_other ho h2 (fun _ _ e => by cases e) hg
end

theorem turn_setChan (w : World) (c cap : Nat) (buf : Array Value) (cl : Bool) (s r : Nat) (tm : Bool) : Turn (· = c) w (w.setChan c cap buf cl s r tm) :=
  ⟨rfl, rfl, rfl, by simp [World.setChan], fun k _ hn => by
    simp only [World.setChan]
    rw [Array.getElem?_setIfInBounds_ne (fun e => hn e.symm)]⟩

/-- What Put and Take leave: the box holds l'; only its channel has turned. -/
structure BoxTo (w : World) (b c cap : Nat) (l' : List Int) (w' : World) : Prop where
  box : IsBox w' b c cap l'
  turn : Turn (· = c) w w'

theorem put_ok (b c cap : Nat) (l : List Int) (x : Int) (w : World) (h : IsBox w b c cap l) (hr : l.length < cap) :
    Calls Try.prog 21 #[.pointer (some ⟨b, 0, none⟩), .int .i64 x] w fun e w' => e = .returned (.int .i64 0) ∧ BoxTo w b c cap (l ++ [x]) w' := by
  have hcell := h.cell
  have hne := h.ne
  obtain ⟨h1, s, r, h2⟩ := h
  refine (put_room b c cap r s _ x w hcell h2 (by simp [strs_length, hr])).mono ?_
  rintro e w' ⟨rfl, rfl⟩
  have t := turn_setChan w c cap ((strs l).toArray.push (.int .i64 x)) false (s + 1) r false
  refine ⟨rfl, ⟨t.obj h1 (fun e => hne e), s + 1, r, ?_⟩, t⟩
  rw [heap_setChan _ _ _ _ _ _ _ _ (Array.getElem?_eq_some_iff.1 h2).1]
  simp [strs]
theorem put_no (b c cap : Nat) (l : List Int) (x : Int) (w : World) (h : IsBox w b c cap l) (hr : cap ≤ l.length) :
    Calls Try.prog 21 #[.pointer (some ⟨b, 0, none⟩), .int .i64 x] w fun e w' => e = .returned (.int .i64 6) ∧ w = w' := by
  have hcell := h.cell
  obtain ⟨h1, s, r, h2⟩ := h
  exact put_full b c cap r s _ x w hcell h2 (by simp [strs_length, hr])
theorem take_ok (b c cap : Nat) (l : List Int) (x : Int) (w : World) (h : IsBox w b c cap (x :: l)) :
    Calls Try.prog 22 #[.pointer (some ⟨b, 0, none⟩)] w fun e w' => e = .returned (.tuple #[.int .i64 x, .int .i64 0]) ∧ BoxTo w b c cap l w' := by
  have hcell := h.cell
  have hne := h.ne
  obtain ⟨h1, s, r, h2⟩ := h
  refine (take_some b c cap r s _ x w hcell h2 (by simp [strs]) (by simp [strs])).mono ?_
  rintro e w' ⟨rfl, rfl⟩
  have t := turn_setChan w c cap ((strs (x :: l)).toArray.extract 1 (strs (x :: l)).toArray.size) false s (r + 1) false
  refine ⟨rfl, ⟨t.obj h1 (fun e => hne e), s, r + 1, ?_⟩, t⟩
  rw [heap_setChan _ _ _ _ _ _ _ _ (Array.getElem?_eq_some_iff.1 h2).1]
  simp only [Option.some.injEq, Obj.chan.injEq, and_true, true_and]
  apply Array.ext'
  simp [strs, List.take_of_length_le]
theorem take_no (b c cap : Nat) (w : World) (h : IsBox w b c cap []) :
    Calls Try.prog 22 #[.pointer (some ⟨b, 0, none⟩)] w fun e w' => e = .returned (.tuple #[.int .i64 0, .int .i64 4]) ∧ w = w' := by
  have hcell := h.cell
  obtain ⟨h1, s, r, h2⟩ := h
  exact take_none b c cap r s w hcell h2
theorem len_ok (b c cap : Nat) (l : List Int) (w : World) (h : IsBox w b c cap l) :
    Calls Try.prog 23 #[.pointer (some ⟨b, 0, none⟩)] w fun e w' => e = .returned (.int .i64 l.length) ∧ w = w' := by
  have hcell := h.cell
  obtain ⟨h1, s, r, h2⟩ := h
  have := len_box b c cap r s _ w hcell h2
  simpa [strs_length] using this
theorem room_ok (b c cap : Nat) (l : List Int) (w : World) (h : IsBox w b c cap l) (hm : cap ≤ 1024) (hs : l.length ≤ cap) :
    Calls Try.prog 24 #[.pointer (some ⟨b, 0, none⟩)] w fun e w' => e = .returned (.int .i64 ((cap : Int) - l.length)) ∧ ∃ n, w.drewN n = w' := by
  have hcell := h.cell
  obtain ⟨h1, s, r, h2⟩ := h
  have := room_box b c cap r s _ w hcell h2 hm (by simpa [strs_length] using hs)
  simpa [strs_length] using this

/-- What New leaves. -/
structure NewTo (w : World) (b c cap : Nat) (w' : World) : Prop where
  box : IsBox w' b c cap []
  below : Below w.heap.size w w'
  new : w.heap.size ≤ b ∧ w.heap.size ≤ c
theorem new_box (n : Int) (h0 : 1 ≤ n) (h1 : n ≤ 1024) (w : World) :
    Calls Try.prog 20 #[.int .i64 n] w fun e w' => e = .returned (.tuple #[.pointer (some ⟨w.heap.size + 1, 0, none⟩), .int .i64 0]) ∧ NewTo w (w.heap.size + 1) w.heap.size n.toNat w' := by
  refine (new_ok n h0 h1 w).mono ?_
  rintro e w' ⟨rfl, rfl⟩
  refine ⟨rfl, ⟨?_, 0, 0, ?_⟩, ((Below.refl _ w).alloc (Nat.le_refl _) _).alloc (by simp) _, by omega, by omega⟩
  · have := heap_alloc_new (w.alloc (.chan n.toNat #[] false 0 0 false)) (.cells #[.chan (some w.heap.size)] 69)
    simpa only [World.size_alloc] using this
  · rw [Below.heap_alloc _ _ _ (by simp)]
    exact heap_alloc_new w _

end Go.Proofs.Ytjgdmdjndkkckaa.NI
