/-
  The mailbox as a list of texts: IsBox; the contracts over it; All.
-/
import Derived.Test.YtjgdmdjndkkckaaBox2
import Derived.Deep.LoopGhost
import Derived.Deep.DeepFit
namespace Go.Proofs.Ytjgdmdjndkkckaa
open Go.Conc Go.RowKit

/-- The cells of texts. -/
def strs (l : List ByteArray) : List Value := l.map Value.string
theorem strs_length (l : List ByteArray) : (strs l).length = l.length := by simp [strs]
theorem strs_append (l m : List ByteArray) : strs (l ++ m) = strs l ++ strs m := by simp [strs]

/-- Block b is a mailbox over the channel c of that size, which holds these texts. -/
def IsBox (w : World) (b c cap : Nat) (l : List ByteArray) : Prop :=
  w.heap[b]? = some (.cells #[.chan (some c)] 51 (0, 0)) ∧ ∃ s r, w.heap[c]? = some (.chan cap (strs l).toArray false s r false)

section
variable {w w' : World} {b c cap : Nat} {l : List ByteArray}
theorem IsBox.cell (h : IsBox w b c cap l) : w.cell? ⟨b, 0, none⟩ = some (.chan (some c)) := by
  simp [World.cell?, h.1]
theorem IsBox.turn {S : Nat → Prop} (h : IsBox w b c cap l) (t : Turn S w w') (hb : ¬ S b) (hc : ¬ S c) : IsBox w' b c cap l := by
  obtain ⟨h1, s, r, h2⟩ := h
  exact ⟨t.obj h1 hb, s, r, t.obj h2 hc⟩
theorem IsBox.lt (h : IsBox w b c cap l) : b < w.heap.size ∧ c < w.heap.size := by
  obtain ⟨h1, s, r, h2⟩ := h
  exact ⟨(Array.getElem?_eq_some_iff.1 h1).1, (Array.getElem?_eq_some_iff.1 h2).1⟩
theorem IsBox.ne (h : IsBox w b c cap l) : b ≠ c := by
  rintro rfl
  obtain ⟨h1, s, r, h2⟩ := h
  rw [h1] at h2
  cases h2
theorem IsBox.row (h : IsBox w b c cap l) {base n : Nat} {v : Value} {xs : List Value} (ho : w.ownsRow base 9 1 v n xs) : ∀ g, v.ownBlock = some g → g ≠ b ∧ g ≠ c := by
  obtain ⟨h1, s, r, h2⟩ := h
  intro g hg
  refine ⟨fun e => ?_, fun e => ?_⟩
  · subst e; exact ownsRow_other ho h1 (fun _ _ e => by cases e) hg
  · subst e; exact ownsRow_other ho h2 (fun _ _ e => by cases e) hg
end

theorem turn_setChan (w : World) (c cap : Nat) (buf : Array Value) (cl : Bool) (s r : Nat) (tm : Bool) : Turn (· = c) w (w.setChan c cap buf cl s r tm) :=
  ⟨rfl, rfl, rfl, by simp [World.setChan], fun k _ hn => by
    simp only [World.setChan]
    rw [Array.getElem?_setIfInBounds_ne (fun e => hn e.symm)]⟩

/-- What Put and Take leave: the box holds l'; only its channel has turned. -/
structure BoxTo (w : World) (b c cap : Nat) (l' : List ByteArray) (w' : World) : Prop where
  box : IsBox w' b c cap l'
  turn : Turn (· = c) w w'

theorem put_ok (b c cap : Nat) (l : List ByteArray) (x : ByteArray) (w : World) (h : IsBox w b c cap l) (hr : l.length < cap) :
    Calls Try.prog 11 #[.pointer (some ⟨b, 0, none⟩), .string x] w fun e w' => e = .returned (.int .i64 0) ∧ BoxTo w b c cap (l ++ [x]) w' := by
  have hcell := h.cell
  have hne := h.ne
  obtain ⟨h1, s, r, h2⟩ := h
  refine (put_room b c cap r s _ x w hcell h2 (by simp [strs_length, hr])).mono ?_
  rintro e w' ⟨rfl, rfl⟩
  have t := turn_setChan w c cap ((strs l).toArray.push (.string x)) false (s + 1) r false
  refine ⟨rfl, ⟨t.obj h1 (fun e => hne e), s + 1, r, ?_⟩, t⟩
  rw [heap_setChan _ _ _ _ _ _ _ _ (Array.getElem?_eq_some_iff.1 h2).1]
  simp [strs]
theorem put_no (b c cap : Nat) (l : List ByteArray) (x : ByteArray) (w : World) (h : IsBox w b c cap l) (hr : cap ≤ l.length) :
    Calls Try.prog 11 #[.pointer (some ⟨b, 0, none⟩), .string x] w fun e w' => e = .returned (.int .i64 6) ∧ w = w' := by
  have hcell := h.cell
  obtain ⟨h1, s, r, h2⟩ := h
  exact put_full b c cap r s _ x w hcell h2 (by simp [strs_length, hr])
theorem take_ok (b c cap : Nat) (l : List ByteArray) (x : ByteArray) (w : World) (h : IsBox w b c cap (x :: l)) :
    Calls Try.prog 12 #[.pointer (some ⟨b, 0, none⟩)] w fun e w' => e = .returned (.tuple #[.string x, .int .i64 0]) ∧ BoxTo w b c cap l w' := by
  have hcell := h.cell
  have hne := h.ne
  obtain ⟨h1, s, r, h2⟩ := h
  refine (take_some b c cap r s _ x w hcell h2 (by simp [strs]) (by simp [strs])).mono ?_
  rintro e w' ⟨rfl, rfl⟩
  have t := turn_setChan w c cap ((strs (x :: l)).toArray.extract 1 (strs (x :: l)).toArray.size) false s (r + 1) false
  refine ⟨rfl, ⟨t.obj h1 (fun e => hne e), s, r + 1, ?_⟩, t⟩
  rw [heap_setChan _ _ _ _ _ _ _ _ (Array.getElem?_eq_some_iff.1 h2).1]
  simp only [Option.some.injEq, Obj.chan.injEq, and_true, true_and]
  apply Array.ext'
  simp [strs, List.take_of_length_le]
theorem take_no (b c cap : Nat) (w : World) (h : IsBox w b c cap []) :
    Calls Try.prog 12 #[.pointer (some ⟨b, 0, none⟩)] w fun e w' => e = .returned (.tuple #[.string ⟨#[]⟩, .int .i64 4]) ∧ w = w' := by
  have hcell := h.cell
  obtain ⟨h1, s, r, h2⟩ := h
  exact take_none b c cap r s w hcell h2
theorem len_ok (b c cap : Nat) (l : List ByteArray) (w : World) (h : IsBox w b c cap l) :
    Calls Try.prog 13 #[.pointer (some ⟨b, 0, none⟩)] w fun e w' => e = .returned (.int .i64 l.length) ∧ w = w' := by
  have hcell := h.cell
  obtain ⟨h1, s, r, h2⟩ := h
  have := len_box b c cap r s _ w hcell h2
  simpa [strs_length] using this
theorem room_ok (b c cap : Nat) (l : List ByteArray) (w : World) (h : IsBox w b c cap l) (hm : cap ≤ 1024) (hs : l.length ≤ cap) :
    Calls Try.prog 10 #[.pointer (some ⟨b, 0, none⟩)] w fun e w' => e = .returned (.int .i64 ((cap : Int) - l.length)) ∧ ∃ n, w.drewN n = w' := by
  have hcell := h.cell
  obtain ⟨h1, s, r, h2⟩ := h
  have := room_box b c cap r s _ w hcell h2 hm (by simpa [strs_length] using hs)
  simpa [strs_length] using this

/-- What New leaves. -/
structure NewTo (w : World) (b c cap : Nat) (w' : World) : Prop where
  box : IsBox w' b c cap []
  below : Below w.heap.size w w'
  new : w.heap.size ≤ b ∧ w.heap.size ≤ c
theorem new_box (n : Int) (h0 : 1 ≤ n) (h1 : n ≤ 1024) (w : World) :
    Calls Try.prog 9 #[.int .i64 n] w fun e w' => e = .returned (.tuple #[.pointer (some ⟨w.heap.size + 1, 0, none⟩), .int .i64 0]) ∧ NewTo w (w.heap.size + 1) w.heap.size n.toNat w' := by
  refine (new_ok n h0 h1 w).mono ?_
  rintro e w' ⟨rfl, rfl⟩
  refine ⟨rfl, ⟨?_, 0, 0, ?_⟩, ((Below.refl _ w).alloc (Nat.le_refl _) _).alloc (by simp) _, by omega, by omega⟩
  · have := heap_alloc_new (w.alloc (.chan n.toNat #[] false 0 0 false)) (.cells #[.chan (some w.heap.size)] 51)
    simpa only [World.size_alloc] using this
  · rw [Below.heap_alloc _ _ _ (by simp)]
    exact heap_alloc_new w _

theorem info9 : (Try.prog.info? 9).map (fun i => (i.zero, i.size, i.bytes)) = some (some (.string ⟨#[]⟩), 1, 16) := by kernel_rfl

/-- What All leaves: a row of the call's own with all that was there; the box is empty. -/
structure AllTo (w : World) (b c cap : Nat) (l : List ByteArray) (v : Value) (w' : World) : Prop where
  box : IsBox w' b c cap []
  turn : Turn (· = c) w w'
  own : w'.ownsRow w.heap.size 9 1 v l.length (strs l)

def AllPost (w : World) (b c cap : Nat) (l : List ByteArray) (e : Ending) (w' : World) : Prop := ∃ v, e = .returned v ∧ AllTo w b c cap l v w'

/-- All's round: so many have been taken. -/
def AllRel (w : World) (b c cap : Nat) (l : List ByteArray) (k : Nat) (v : Value) (wr : World) : Prop :=
  ∃ p q, l = p ++ q ∧ q.length = k ∧ IsBox wr b c cap q ∧ Turn (· = c) w wr ∧ wr.ownsRow w.heap.size 9 1 v p.length (strs p)

set_option maxHeartbeats 400000 in
theorem all_ok (b c cap : Nat) (l : List ByteArray) (w : World) (h : IsBox w b c cap l) (hm : l.length ≤ 1024) :
    Calls Try.prog 14 #[.pointer (some ⟨b, 0, none⟩)] w (AllPost w b c cap l) := by
  obtain ⟨i0, hi, hz0, hz1, hz2⟩ := info_parts info9
  go_enter Try.func14, Try.ntmps14
  go_wp2
  go_loopg [3] l.length (fun k v wr => AllRel w b c cap l k v wr)
  case atStart => exact ⟨[], l, rfl, rfl, h, Turn.refl _ _, World.ownsRow_nil _ _ _ _⟩
  case round =>
    obtain ⟨p, q, hl, hq, hbox, ht, hown⟩ := hrel
    have HL := hide hl
    have HQ := hide hq
    clear hl hq
    cases q with
    | nil =>
      go_wp2_with (go_at_call 12; refine (take_no b c cap _ hbox).mono ?_; rintro e w' ⟨rfl, rfl⟩)
      go_ret
      have e := HL.out
      simp at e
      subst e
      exact ⟨_, rfl, hbox, ht, hown⟩
    | cons x q =>
      have hnb := fun g hg => (hbox.row hown g hg)
      have HN := hide hnb
      clear hnb
      go_wp2_with (first | (go_at_call 12; refine (take_ok b c cap q x _ hbox).mono ?_; rintro e w' ⟨rfl, hb'⟩; have hown' := ownsRow_turn hown hb'.turn (fun g hg => (HN.out g hg).2)) | (at_builtin; refine wpList_append1 rfl (.tmp 14) (.tmp 16) 29 rfl w.heap.size 9 i0 _ 1 16 Try.underlying29 hi hz0 hz1 hz2 rfl (by decide) _ p.length (strs p) rfl hown' [.string x] rfl rfl ?c1 ?c2 ?c3 ?c4 ?c5))
      case c1 => intro u hu; simp at hu; subst hu; rfl
      case c2 => have := HL.out; subst this; simp at hm; omega
      case c3 => omega
      case c4 => have := ht.size; have := hb'.turn.size; omega
      intro v' w1 hown1 ht1 hnew
      clear hown'
      go_wp2
      go_roundg q.length
      case measure => have := HQ.out; simp at this; omega
      case rel =>
        have hb1 := hb'.box
        refine ⟨p ++ [x], q, by rw [HL.out]; simp, rfl, hb1.turn ht1 (fun e => (HN.out _ e).1 rfl) (fun e => (HN.out _ e).2 rfl), ?_, ?_⟩
        · refine (ht.trans hb'.turn).step ht1 ?_
          intro k hk e
          have := (ownsRow_base hown e).1
          omega
        · rw [strs_append, List.length_append]; exact hown1
end Go.Proofs.Ytjgdmdjndkkckaa
