/-
  The document's own mailboxes (lists): contracts.
-/
import Derived.Test.YtjgdmdjndkkckaaEither
namespace Go.Proofs.Ytjgdmdjndkkckaa
open Go.Conc Go.RowKit

/-- Block b is the document's mailbox of that size, which holds these texts. -/
def IsRef (w : World) (base b size : Nat) (l : List ByteArray) : Prop :=
  ∃ v, w.heap[b]? = some (.cells #[.int .i64 size, v] 63 (0, 0)) ∧ w.ownsRow base 9 1 v l.length (strs l)
structure RefTo (w : World) (base b size : Nat) (l : List ByteArray) (w' : World) : Prop where
  ref : IsRef w' base b size l
  turn : Turn (· = b) w w'

section
variable {w w' : World} {base b size : Nat} {l : List ByteArray}
theorem IsRef.turn {S : Nat → Prop} (h : IsRef w base b size l) (t : Turn S w w') (hb : ¬ S b) (hS : ∀ k, S k → ∀ cur fz, w.heap[k]? ≠ some (.cells cur 9 fz)) : IsRef w' base b size l := by
  obtain ⟨v, h1, h2⟩ := h
  refine ⟨v, t.obj h1 hb, ownsRow_turn h2 t (fun g hg hs => ?_)⟩
  rcases h2.2 with ⟨rfl, _⟩ | ⟨g', cap, cur, rfl, _, hh, _⟩
  · cases hg
  · obtain rfl : g' = g := by simpa [Value.ownBlock] using hg
    exact hS g' hs _ _ hh
theorem IsRef.lt (h : IsRef w base b size l) : b < w.heap.size := by
  obtain ⟨v, h1, _⟩ := h
  exact (Array.getElem?_eq_some_iff.1 h1).1
theorem cell2 {v0 v1 : Value} {t : TypeId} (h : w.heap[b]? = some (.cells #[v0, v1] t (0, 0))) : w.cell? ⟨b, 0, none⟩ = some v0 ∧ w.cell? ⟨b, 1, none⟩ = some v1 ∧ w.frozen? ⟨b, 1, none⟩ = false := by
  simp [World.cell?, World.frozen?, h]
end

theorem Turn.obj_own {w w' : World} {b : Nat} {o : Obj} {base : Nat} {e : TypeId} {size : Nat} {v : Value} {n : Nat} {xs : List Value} (ho : w.heap[b]? = some o) (hno : ∀ cur fz, o ≠ .cells cur e fz) (hown : w.ownsRow base e size v n xs)
    (t : Turn (fun k => v.ownBlock = some k) w w') : w'.heap[b]? = some o := t.obj ho (fun h => ownsRow_other hown ho hno h)
theorem set2 {w : World} {b : Nat} {v0 v1 u : Value} {t : TypeId} (h : w.heap[b]? = some (.cells #[v0, v1] t (0, 0))) : (w.setCell ⟨b, 1, none⟩ u).heap[b]? = some (.cells #[v0, u] t (0, 0)) := by
  simp [World.setCell, Array.getElem?_modify, h]
/-- Behind the store of the new row into the field. -/
theorem ref_stored {w w2 : World} {base b size : Nat} {v0 v : Value} {l : List ByteArray} {S : Nat → Prop} (t : Turn S w w2) (hS : ∀ k, k < w.heap.size → S k → k = b) (h1 : w2.heap[b]? = some (.cells #[.int .i64 size, v0] 63 (0, 0)))
    (own : w2.ownsRow base 9 1 v l.length (strs l)) : RefTo w base b size l (w2.setCell ⟨b, 1, none⟩ v) := by
  have ts : Turn (· = b) w2 (w2.setCell ⟨b, 1, none⟩ v) := (Turn.refl (· = b) w2).setCell (p := ⟨b, 1, none⟩) (fun _ => rfl) v
  exact ⟨⟨v, set2 h1, ownsRow_turn own ts (fun g hg e => ownsRow_other own h1 (fun _ _ e => by cases e) (e ▸ hg))⟩, (t.mono hS).trans ts⟩

theorem rnone_ok (base b size : Nat) (l : List ByteArray) (w : World) (h : IsRef w base b size l) (hs : 1 ≤ size) :
    Calls Try.prog 34 #[.pointer (some ⟨b, 0, none⟩)] w fun e w' => e = .returned (.bool false) ∧ w = w' := by
  obtain ⟨v, h1, _⟩ := h
  have c0 := (cell2 h1).1
  clear h1
  have hz : ((size : Int) == 0) = false := by simp; omega
  go_enter Try.func34, Try.ntmps34
  go_wp2
  go_ret
  exact ⟨rfl, rfl⟩
theorem rnone_nil (w : World) : Calls Try.prog 34 #[.pointer none] w fun e w' => e = .returned (.bool true) ∧ w = w' := by
  go_enter Try.func34, Try.ntmps34
  go_wp2
  go_ret
  exact ⟨rfl, rfl⟩
theorem rlen_ok (base b size : Nat) (l : List ByteArray) (w : World) (h : IsRef w base b size l) (hs : 1 ≤ size) :
    Calls Try.prog 31 #[.pointer (some ⟨b, 0, none⟩)] w fun e w' => e = .returned (.int .i64 l.length) ∧ w = w' := by
  have H := hide h
  obtain ⟨v, h1, h2⟩ := h
  obtain ⟨A, c, rfl⟩ := (Rd.of_own h2).shape
  have c0 := (cell2 h1).2.1
  clear h1 h2
  go_enter Try.func31, Try.ntmps31
  go_wp2_with fail
  refine (rnone_ok base b size l _ H.out hs).mono ?_
  rintro e w' ⟨rfl, rfl⟩
  go_wp2
  go_ret
  exact ⟨rfl, rfl⟩
theorem rlen_nil (w : World) : Calls Try.prog 31 #[.pointer none] w fun e w' => e = .returned (.int .i64 0) ∧ w = w' := by
  go_enter Try.func31, Try.ntmps31
  go_wp2_with fail
  refine (rnone_nil _).mono ?_
  rintro e w' ⟨rfl, rfl⟩
  go_wp2
  go_ret
  exact ⟨rfl, rfl⟩
theorem rroom_ok (base b size : Nat) (l : List ByteArray) (w : World) (h : IsRef w base b size l) (hs : 1 ≤ size) (hm : size ≤ 1024) (hl : l.length ≤ size) :
    Calls Try.prog 32 #[.pointer (some ⟨b, 0, none⟩)] w fun e w' => e = .returned (.int .i64 ((size : Int) - l.length)) ∧ ∃ n, w.drewN n = w' := by
  have H := hide h
  obtain ⟨v, h1, h2⟩ := h
  obtain ⟨A, c, rfl⟩ := (Rd.of_own h2).shape
  have c0 := (cell2 h1).1
  have c1 := (cell2 h1).2.1
  clear h1 h2
  go_enter Try.func32, Try.ntmps32
  go_wp2_with fail
  refine (rnone_ok base b size l _ H.out hs).mono ?_
  rintro e w' ⟨rfl, rfl⟩
  go_wp2_with fail
  go_quiet (fail)
  go_wp2
  go_ret
  exact ⟨rfl, nq, rfl⟩
theorem rroom_nil (w : World) : Calls Try.prog 32 #[.pointer none] w fun e w' => e = .returned (.int .i64 0) ∧ w = w' := by
  go_enter Try.func32, Try.ntmps32
  go_wp2_with fail
  refine (rnone_nil _).mono ?_
  rintro e w' ⟨rfl, rfl⟩
  go_wp2
  go_ret
  exact ⟨rfl, rfl⟩

set_option maxHeartbeats 400000 in
theorem rput_ok (base b size : Nat) (l : List ByteArray) (x : ByteArray) (w : World) (h : IsRef w base b size l) (hs : 1 ≤ size) (hm : size ≤ 1024) (hl : l.length < size) (hbase : base ≤ w.heap.size) :
    Calls Try.prog 26 #[.pointer (some ⟨b, 0, none⟩), .string x] w fun e w' => e = .returned (.int .i64 0) ∧ RefTo w base b size (l ++ [x]) w' := by
  obtain ⟨i0, hi, hz0, hz1, hz2⟩ := info_parts info9
  have H := hide h
  obtain ⟨v, h1, h2⟩ := h
  have HR := hide (Rd.of_own h2)
  obtain ⟨A, c, rfl⟩ := (Rd.of_own h2).shape
  have hb := H.out.lt
  have c0 := (cell2 h1).1
  have c1 := (cell2 h1).2.1
  have H1 := hide h1
  clear h1 h2
  have hne : (((l.length : Int)) == (size : Int)) = false := by simp; omega
  go_enter Try.func26, Try.ntmps26
  go_wp2_with fail
  refine (rnone_ok base b size l _ H.out hs).mono ?_
  rintro e w' ⟨rfl, rfl⟩
  go_wp2_with fail
  go_quiet (fail)
  have c1a : ((w.drewN nq).alloc (.cells #[] 9)).cell? ⟨b, 1, none⟩ = some (.slice A l.length c) := (World.cell?_alloc_lt _ _ _ hb).trans c1
  have W1 : ((w.drewN nq).alloc (.cells #[] 9)).ownsRow base 9 1 (.slice (some ⟨w.heap.size, 0, none⟩) 0 0) 0 [] := World.ownsRow_made _ _ _ hbase (by unfold maxLen; omega) (by simp)
  have tA : Turn (fun _ => False) w ((w.drewN nq).alloc (.cells #[] 9)) := ((Turn.refl _ w).drewN nq).alloc _
  have hrA := HR.out.turn tA (fun _ _ _ h => h)
  have g1 : ((w.drewN nq).alloc (.cells #[] 9)).heap[b]? = some (.cells #[.int .i64 size, .slice A l.length c] 63 (0, 0)) := tA.obj H1.out (fun h => h)
  have G1 := hide g1
  clear g1
  go_wp2_with (first | (at_builtin; refine wpList_appendRd rfl (.tmp 18) (.tmp 22) 29 rfl base 9 i0 _ 1 16 Try.underlying29 hi hz0 hz1 hz2 rfl (by decide) _ _ _ rfl W1 _ _ _ rfl hrA (by intro u hu; simp only [strs, List.mem_map] at hu; obtain ⟨y, _, rfl⟩ := hu; rfl) (by omega) (by omega) (by simp; omega) ?_; intro v2 w2 own2 t2 new2; have G2 := hide (Turn.obj_own G1.out (by intro _ _ e; cases e) W1 t2); have T2 := hide t2; have N2 := hide new2; clear t2 new2) | (at_builtin; refine wpList_append1 rfl (.tmp 23) (.tmp 25) 29 rfl base 9 i0 _ 1 16 Try.underlying29 hi hz0 hz1 hz2 rfl (by decide) _ _ _ rfl own2 [.string x] rfl rfl (by intro u hu; simp at hu; subst hu; rfl) (by omega) (by omega) (by have := T2.out.size; simp at this; omega) ?_; intro v3 w3 own3 t3 new3; have G3 := hide (Turn.obj_own G2.out (by intro _ _ e; cases e) own2 t3); simp only [Nat.zero_add, List.nil_append] at own3; obtain ⟨A3, C3, hv3⟩ := (Rd.of_own own3).shape; rw [hv3] at own3; rw [hv3]; have O3 := hide own3; have T3 := hide t3; have k3 := (cell2 G3.out).2.1; have f3 := (cell2 G3.out).2.2; clear hv3 own3 t3 new3))
  go_ret
  refine ⟨rfl, ref_stored (w := w) (S := fun k => w.heap.size ≤ k) (v := .slice A3 (l.length + 1) C3) ?_ (fun k hk hs => by omega) G3.out ?_⟩
  · refine ((tA.mono (fun _ _ h => h.elim)).step T2.out (fun k hk e => ?_)).step T3.out (fun k hk e => ?_)
    · have e' : w.heap.size = k := Option.some.inj e; omega
    · rcases N2.out k e with h | h
      · have e' : w.heap.size = k := Option.some.inj h; omega
      · simp at h; omega
  · have := O3.out
    simpa [strs] using this

theorem rput_full (base b size : Nat) (l : List ByteArray) (x : ByteArray) (w : World) (h : IsRef w base b size l) (hs : 1 ≤ size) (hm : size ≤ 1024) (hl : l.length = size) :
    Calls Try.prog 26 #[.pointer (some ⟨b, 0, none⟩), .string x] w fun e w' => e = .returned (.int .i64 6) ∧ ∃ n, w.drewN n = w' := by
  subst hl
  have H := hide h
  obtain ⟨v, h1, h2⟩ := h
  obtain ⟨A, c, rfl⟩ := (Rd.of_own h2).shape
  have c0 := (cell2 h1).1
  have c1 := (cell2 h1).2.1
  clear h1 h2
  go_enter Try.func26, Try.ntmps26
  go_wp2_with fail
  refine (rnone_ok base b _ l _ H.out hs).mono ?_
  rintro e w' ⟨rfl, rfl⟩
  go_wp2_with fail
  go_quiet (fail)
  go_wp2
  go_ret
  exact ⟨rfl, nq, rfl⟩
theorem rput_nil (x : ByteArray) (w : World) : Calls Try.prog 26 #[.pointer none, .string x] w fun e w' => e = .returned (.int .i64 2) ∧ w = w' := by
  go_enter Try.func26, Try.ntmps26
  go_wp2_with fail
  refine (rnone_nil _).mono ?_
  rintro e w' ⟨rfl, rfl⟩
  go_wp2
  go_ret
  exact ⟨rfl, rfl⟩

/-- The rest of a row behind its first element. -/
theorem rd_tail {w : World} {A : Option Addr} {n c : Nat} {x : Value} {xs : List Value} (h : Rd w 1 (.slice A (n + 1) c) (n + 1) (x :: xs)) (hc : n + 1 ≤ c) :
    Rd w 1 (.slice (if c = 1 then A else A.map (·.add 1)) n (c - 1)) n xs := by
  have hl := h.1
  obtain ⟨b, o, rfl, hb, hcell⟩ := h.cells (by omega)
  refine ⟨by simpa using hl, _, _, rfl, ?_, ?_⟩
  · intro e; split at e <;> simp at e
  · intro h0
    rw [if_neg (by omega)]
    refine ⟨b, o + 1, by simp [add_mk], hb, fun j u hj => ?_⟩
    have := hcell (j + 1) u (by simpa using hj)
    rwa [show o + (j + 1) = o + 1 + j by omega] at this
theorem own_cap {w : World} {base : Nat} {e : TypeId} {size n m c : Nat} {A : Option Addr} {xs : List Value} (h : w.ownsRow base e size (.slice A m c) n xs) : n ≤ c := by
  rcases h.2 with ⟨h1, h2⟩ | ⟨g, cap, cur, hv, _, _, hn, _⟩
  · injection h1 with _ _ h3; omega
  · injection hv with _ _ h3; omega

set_option maxHeartbeats 400000 in
theorem rtake_ok (base b size : Nat) (l : List ByteArray) (x : ByteArray) (w : World) (h : IsRef w base b size (x :: l)) (hs : 1 ≤ size) (hm : size ≤ 1024) (hl : l.length < size) (hbase : base ≤ w.heap.size) :
    Calls Try.prog 27 #[.pointer (some ⟨b, 0, none⟩)] w fun e w' => e = .returned (.tuple #[.string x, .int .i64 0]) ∧ RefTo w base b size l w' := by
  obtain ⟨i0, hi, hz0, hz1, hz2⟩ := info_parts info9
  have H := hide h
  obtain ⟨v, h1, h2⟩ := h
  have hr := Rd.of_own h2
  obtain ⟨A, c, rfl⟩ := hr.shape
  have hcap := own_cap h2
  rw [List.length_cons] at *
  have HT := hide (rd_tail hr hcap)
  obtain ⟨br, orr, rfl, hbr, hcell⟩ := hr.cells (by omega)
  have cx := hcell 0 _ (by rfl)
  rw [Nat.add_zero] at cx
  have hb := H.out.lt
  have c1 := (cell2 h1).2.1
  have H1 := hide h1
  clear h1 h2 hcell hr
  have W1 : (w.alloc (.cells #[] 9)).ownsRow base 9 1 (.slice (some ⟨w.heap.size, 0, none⟩) 0 0) 0 [] := World.ownsRow_made _ _ _ hbase (by unfold maxLen; omega) (by simp)
  have tA : Turn (fun _ => False) w (w.alloc (.cells #[] 9)) := (Turn.refl _ w).alloc _
  have hrA := HT.out.turn tA (fun _ _ _ h => h)
  have g1 : (w.alloc (.cells #[] 9)).heap[b]? = some (.cells #[.int .i64 size, .slice (some ⟨br, orr, none⟩) (l.length + 1) c] 63 (0, 0)) := tA.obj H1.out (fun h => h)
  have c1a : (w.alloc (.cells #[] 9)).cell? ⟨b, 1, none⟩ = some (.slice (some ⟨br, orr, none⟩) (l.length + 1) c) := (World.cell?_alloc_lt _ _ _ hb).trans c1
  have G1 := hide g1
  clear g1
  by_cases hc1 : c = 1
  · subst hc1
    obtain rfl : l = [] := List.eq_nil_of_length_eq_zero (by omega)
    rw [if_pos rfl] at hrA
    simp only [List.length_nil, Nat.zero_add, Nat.sub_self] at *
    go_enter Try.func27, Try.ntmps27
    go_wp2_with fail
    refine (rnone_ok base b size _ _ H.out hs).mono ?_
    rintro e w' ⟨rfl, rfl⟩
    go_wp2_with (first | (at_builtin; refine wpList_appendRd rfl (.tmp 20) (.tmp 25) 29 rfl base 9 i0 _ 1 16 Try.underlying29 hi hz0 hz1 hz2 rfl (by decide) _ _ _ rfl W1 _ _ _ rfl hrA (by intro u hu; cases hu) (by omega) (by omega) (by simp; omega) ?_; intro v3 w3 own3 t3 new3; have G3 := hide (Turn.obj_own G1.out (by intro _ _ e; cases e) W1 t3); simp only [Nat.zero_add, List.nil_append] at own3; obtain ⟨A3, C3, hv3⟩ := (Rd.of_own own3).shape; rw [hv3] at own3; rw [hv3]; have O3 := hide own3; have T3 := hide t3; have k3 := (cell2 G3.out).2.1; have f3 := (cell2 G3.out).2.2; clear hv3 own3 t3 new3))
    go_ret2
    refine ⟨rfl, ref_stored (w := w) (S := fun k => w.heap.size ≤ k) (v := .slice A3 0 C3) ?_ (fun k hk hs => by omega) G3.out O3.out⟩
    refine (tA.mono (fun _ _ h => h.elim)).step T3.out (fun k hk e => ?_)
    have e' : w.heap.size = k := Option.some.inj e; omega
  · rw [if_neg hc1] at hrA
    simp only [Option.map_some, add_mk] at hrA
    go_enter Try.func27, Try.ntmps27
    go_wp2_with fail
    refine (rnone_ok base b size _ _ H.out hs).mono ?_
    rintro e w' ⟨rfl, rfl⟩
    go_wp2_with (first | (at_builtin; refine wpList_appendRd rfl (.tmp 20) (.tmp 25) 29 rfl base 9 i0 _ 1 16 Try.underlying29 hi hz0 hz1 hz2 rfl (by decide) _ _ _ rfl W1 _ _ _ rfl hrA (by intro u hu; simp only [List.mem_map] at hu; obtain ⟨y, _, rfl⟩ := hu; rfl) (by omega) (by omega) (by simp; omega) ?_; intro v3 w3 own3 t3 new3; have G3 := hide (Turn.obj_own G1.out (by intro _ _ e; cases e) W1 t3); simp only [Nat.zero_add, List.nil_append] at own3; obtain ⟨A3, C3, hv3⟩ := (Rd.of_own own3).shape; rw [hv3] at own3; rw [hv3]; have O3 := hide own3; have T3 := hide t3; have k3 := (cell2 G3.out).2.1; have f3 := (cell2 G3.out).2.2; clear hv3 own3 t3 new3))
    go_ret2
    refine ⟨rfl, ref_stored (w := w) (S := fun k => w.heap.size ≤ k) (v := .slice A3 l.length C3) ?_ (fun k hk hs => by omega) G3.out O3.out⟩
    refine (tA.mono (fun _ _ h => h.elim)).step T3.out (fun k hk e => ?_)
    have e' : w.heap.size = k := Option.some.inj e; omega

theorem rtake_none (base b size : Nat) (w : World) (h : IsRef w base b size []) (hs : 1 ≤ size) :
    Calls Try.prog 27 #[.pointer (some ⟨b, 0, none⟩)] w fun e w' => e = .returned (.tuple #[.string ⟨#[]⟩, .int .i64 4]) ∧ w = w' := by
  have H := hide h
  obtain ⟨v, h1, h2⟩ := h
  obtain ⟨A, c, rfl⟩ := (Rd.of_own h2).shape
  have c1 := (cell2 h1).2.1
  clear h1 h2
  go_enter Try.func27, Try.ntmps27
  go_wp2_with fail
  refine (rnone_ok base b size _ _ H.out hs).mono ?_
  rintro e w' ⟨rfl, rfl⟩
  go_wp2
  go_ret2
  exact ⟨rfl, rfl⟩
theorem rtake_nil (w : World) : Calls Try.prog 27 #[.pointer none] w fun e w' => e = .returned (.tuple #[.string ⟨#[]⟩, .int .i64 2]) ∧ w = w' := by
  go_enter Try.func27, Try.ntmps27
  go_wp2_with fail
  refine (rnone_nil _).mono ?_
  rintro e w' ⟨rfl, rfl⟩
  go_wp2
  go_ret2
  exact ⟨rfl, rfl⟩
def RAllPost (w : World) (base b size : Nat) (l : List ByteArray) (e : Ending) (w' : World) : Prop :=
  ∃ v, e = .returned v ∧ RefTo w base b size [] w' ∧ w'.ownsRow base 9 1 v l.length (strs l)
theorem rall_ok (base b size : Nat) (l : List ByteArray) (w : World) (h : IsRef w base b size l) (hs : 1 ≤ size) :
    Calls Try.prog 28 #[.pointer (some ⟨b, 0, none⟩)] w (RAllPost w base b size l) := by
  have H := hide h
  obtain ⟨v, h1, h2⟩ := h
  obtain ⟨A, c, rfl⟩ := (Rd.of_own h2).shape
  have c1 := (cell2 h1).2.1
  have f1 := (cell2 h1).2.2
  have H1 := hide h1
  have H2 := hide h2
  clear h1 h2
  go_enter Try.func28, Try.ntmps28
  go_wp2_with fail
  refine (rnone_ok base b size _ _ H.out hs).mono ?_
  rintro e w' ⟨rfl, rfl⟩
  go_wp2
  go_ret
  have r := ref_stored (w := w) (w2 := w) (base := base) (S := fun _ => False) (v := .slice none 0 0) (l := []) (Turn.refl _ w) (fun _ _ h => h.elim) H1.out (World.ownsRow_nil _ _ _ _)
  exact ⟨_, rfl, r, ownsRow_turn H2.out r.turn (fun g hg e => ownsRow_other H2.out H1.out (fun _ _ e => by cases e) (e ▸ hg))⟩
theorem rall_nil (w : World) : Calls Try.prog 28 #[.pointer none] w fun e w' => e = .returned (.slice none 0 0) ∧ w = w' := by
  go_enter Try.func28, Try.ntmps28
  go_wp2_with fail
  refine (rnone_nil _).mono ?_
  rintro e w' ⟨rfl, rfl⟩
  go_wp2
  go_ret
  exact ⟨rfl, rfl⟩
end Go.Proofs.Ytjgdmdjndkkckaa
