/-
  RelayMoves: the walk.
-/
import Derived.Test.YtjgdmdjndkkckaaMove
namespace Go.Proofs.Ytjgdmdjndkkckaa
open Go.Conc Go.RowKit

theorem mv_facts (most : Int) (a r n : Nat) (h : n = mv most a r) : n ≤ a ∧ n ≤ r ∧ (0 < n → (n : Int) ≤ most) ∧ (n < a → (n : Int) < most → r ≤ n) := by
  unfold mv at h
  omega

def PutRel (w1 : World) (b c cap k : Nat) (vp : Value) (wr : World) : Prop :=
  ∃ p : List ByteArray, IsBox wr b c cap p ∧ p.length ≤ cap ∧ p.length ≤ k ∧ wr.ownsRow w1.heap.size 9 1 vp p.length (strs p) ∧ Turn (· = c) w1 wr

set_option maxRecDepth 100000 in
set_option maxHeartbeats 2000000 in
theorem moves_ok (m1 m2 : Nat) (h1 : 1 ≤ m1) (h2 : m1 ≤ 1024) (h3 : 1 ≤ m2) (h4 : m2 ≤ 1024) (vl : Value) (l : List ByteArray) (most : Int) (w : World) (hl : Rd w 1 vl l.length (strs l)) (hm : l.length ≤ 300) :
    Calls Try.prog 4 #[.int .i64 m1, .int .i64 m2, vl, .int .i64 most] w fun e w' => e = .returned (.bool true) ∧ Below w.heap.size w w' := by
  obtain ⟨i0, hi, hz0, hz1, hz2⟩ := info_parts info9
  have HR := hide hl
  obtain ⟨A, cA, rfl⟩ := hl.shape
  clear hl
  go_enter Try.func4, Try.ntmps4
  go_wp2_with fail
  refine (new_box m1 (by omega) (by omega) _).mono ?_
  rintro e w1 ⟨rfl, hn⟩
  rw [Int.toNat_natCast] at hn
  obtain ⟨hb1, hbel1, hnb1, hnc1⟩ := hn
  have hlt1 := hb1.lt
  generalize w.heap.size + 1 = b1 at *
  go_wp2_with fail
  refine (new_box m2 (by omega) (by omega) _).mono ?_
  rintro e w2 ⟨rfl, hn⟩
  rw [Int.toNat_natCast] at hn
  obtain ⟨hb2, hbel2, hnb2, hnc2⟩ := hn
  generalize hbb2 : w1.heap.size + 1 = b2 at *
  have HBB2 := hide hbb2
  clear hbb2
  have hb12 : IsBox w2 b1 w.heap.size m1 [] := hb1.turn (Turn.of_below (S := fun _ => False) hbel2) (fun h => h) (fun h => h)
  have hbel : Below w.heap.size w w2 := hbel1.trans (hbel2.mono hbel1.size)
  have hs1 := hbel1.size
  have hs12 := hbel2.size
  go_wp2_with fail
  go_loopw [13, 14] (fun vp i wr => ∃ k : Nat, k ≤ l.length ∧ i = .int .i64 k ∧ PutRel w2 b1 w.heap.size m1 k vp wr) (fun _ i _ => l.length - (intOf i).toNat)
  case atStart => exact ⟨0, by omega, rfl, [], hb12, by simp, by simp, World.ownsRow_nil _ _ _ _, Turn.refl _ _⟩
  case round =>
    obtain ⟨k, hk, rfl, p, hbox, hpc, hlen, hp, ht⟩ := hrel
    have hbw : Below w.heap.size w wr := hbel.trans (ht.below hbel.size (by intro k hk; omega))
    have hsw := hbw.size
    by_cases hlt : k < l.length
    · obtain ⟨bl, ol, rfl, hbl, hcell⟩ := HR.out.cells (by omega)
      have c0 := (hbw.cell (p := ⟨bl, _, none⟩) hbl).trans (hcell _ _ (strs_at hlt))
      generalize l[k] = x at *
      clear hcell
      obtain ⟨A1, C1, rfl⟩ := (Rd.of_own hp).shape
      by_cases hr : p.length < m1
      · go_wp2_with fail
        refine (put_ok b1 _ m1 p x _ hbox hr).mono ?_
        rintro e w3 ⟨rfl, hb3⟩
        have c3' := (hb3.turn.cell (p := ⟨bl, ol + k, none⟩) (show bl < wr.heap.size by omega) (show bl ≠ w.heap.size by omega)).trans c0
        have hp3 := ownsRow_turn hp hb3.turn (fun g hg e => (hbox.row hp g hg).2 e)
        have hs3 := hb3.turn.size
        go_wp2_with (at_builtin; refine wpList_append1 rfl (.tmp 51) (.tmp 56) 29 rfl w2.heap.size 9 i0 _ 1 16 Try.underlying29 hi hz0 hz1 hz2 rfl (by decide) _ _ _ rfl hp3 [.string x] rfl rfl ?c1 ?c2 ?c3 ?c4 ?c5)
        case c1 => intro u hu; simp at hu; subst hu; rfl
        case c2 => omega
        case c3 => omega
        case c4 => have := ht.size; omega
        intro v' w4 hp4 t4 new4
        have hb4 := hb3.box.turn t4 (fun e => (hb3.box.row hp3 _ e).1 rfl) (fun e => (hb3.box.row hp3 _ e).2 rfl)
        go_wp2_with fail
        go_roundw
        case rel => exact ⟨k + 1, by omega, by go_num, p ++ [x], hb4, by simp; omega, by simp; omega, by simpa [strs] using hp4, (ht.trans hb3.turn).step t4 (fun g hg e => by have := (ownsRow_base hp3 e).1; omega)⟩
        case measure => simp [intOf]; omega
      · go_wp2_with fail
        refine (put_no b1 _ m1 p x _ hbox (by omega)).mono ?_
        rintro e w3 ⟨rfl, rfl⟩
        go_wp2_with fail
        go_roundw
        case rel => exact ⟨k + 1, by omega, by go_num, p, hbox, by omega, by omega, hp, ht⟩
        case measure => simp [intOf]; omega
    · have hb2r : IsBox wr b2 w1.heap.size m2 [] := hb2.turn ht (fun e => by have := HBB2.out; omega) (fun e => by omega)
      go_wp2_with fail
      refine (move_ok b1 w.heap.size m1 b2 w1.heap.size m2 p [] most wr hbox hb2r (by have := HBB2.out; omega) (by omega) (by omega) h4 (by simp)).mono ?_
      rintro e w3 ⟨rfl, hmv⟩
      rw [List.nil_append] at hmv
      obtain ⟨n, hn⟩ : ∃ n, n = mv most p.length (m2 - ([] : List ByteArray).length) := ⟨_, rfl⟩
      rw [← hn] at hmv ⊢
      have hf := mv_facts _ _ _ _ hn
      have hs23 := ht.size
      have hs34 := hmv.turn.size
      have hl2 := hb2.lt
      clear hn
      obtain ⟨f1, f2, f3, f4⟩ := hf
      simp only [List.length_nil, Nat.sub_zero] at f2 f4
      have hp3 := ownsRow_turn hp hmv.turn (fun g hg e => by have := (ownsRow_base hp hg).1; have := hb2.lt; rcases e with e | e <;> omega)
      obtain ⟨A1, C1, rfl⟩ := (Rd.of_own hp).shape
      go_wp2_with fail
      refine (len_n b2 _ m2 _ n _ hmv.two (by simp; omega)).mono ?_
      rintro e w4 ⟨rfl, rfl⟩
      go_wp2_with fail
      all_goals (try (go_at_call 10; refine (room_n b2 _ m2 _ n _ hmv.two h4 (by omega) (by simp; omega)).mono ?_; rintro e w5 ⟨rfl, n5, rfl⟩; go_wp2_with fail))
      all_goals
        refine (all_ok b2 _ m2 (p.take n) _ (by exact hmv.two) (by simp; omega)).mono ?_
        rintro e w6 ⟨v6, rfl, hb6, t6, own6⟩
        have t6' : Turn (· = w1.heap.size) w3 w6 := ⟨t6.os, t6.tape, t6.output, t6.size, t6.block⟩
        have own6' : w6.ownsRow w3.heap.size 9 1 v6 n (strs (p.take n)) := by have := own6; rwa [show (p.take n).length = n by simp; omega] at this
        clear t6 own6
        have hs6 := t6'.size
        have h16 : IsBox w6 b1 w.heap.size m1 (p.drop n) := hmv.one.turn t6' (fun e => by omega) (fun e => by omega)
        have hp6 := ownsRow_turn hp3 t6' (fun g hg e => by have := (ownsRow_base hp3 hg).1; have := hb2.lt; omega)
        obtain ⟨A6, C6, hv6⟩ := (Rd.of_own own6').shape
        rw [hv6] at own6'
        rw [hv6]
        clear hv6
        go_wp2_with fail
        refine (all_ok b1 _ m1 (p.drop n) _ h16 (by simp; omega)).mono ?_
        rintro e w7 ⟨v7, rfl, hb7, t7, own7⟩
        rw [List.length_drop] at own7
        have own67 := ownsRow_turn own6' t7 (fun g hg e => by have := (ownsRow_base own6' hg).1; omega)
        have hp7 := ownsRow_turn hp6 t7 (fun g hg e => by have := (ownsRow_base hp6 hg).1; have := hbel.size; have := hb12.lt; omega)
        obtain ⟨A7, C7, hv7⟩ := (Rd.of_own own7).shape
        have hr7 := Rd.of_own own7
        rw [hv7] at hr7
        rw [hv7]
        have hbw7 : Below w.heap.size w w7 := ((hbw.trans (hmv.turn.below hsw (by intro k hk; omega))).trans (t6'.below (by have := hmv.turn.size; omega) (by intro k hk; omega))).trans (t7.below (by have := hmv.turn.size; have := t6'.size; omega) (by intro k hk; omega))
        have hs7 := hbw7.size
        clear hv7 own7
        go_wp2_with (at_builtin; refine wpList_appendRd rfl (.tmp 92) (.tmp 94) 29 rfl w3.heap.size 9 i0 _ 1 16 Try.underlying29 hi hz0 hz1 hz2 rfl (by decide) _ _ _ rfl own67 _ _ _ rfl hr7 (by intro u hu; simp only [strs, List.mem_map] at hu; obtain ⟨y, _, rfl⟩ := hu; rfl) (by omega) (by omega) (by have := t6'.size; have := t7.size; omega) ?_; intro v' w8 ho8 t8 new8)
        have hp8 := ownsRow_turn hp7 t8 (fun g hg e => by have := (ownsRow_base hp3 hg).2; have := (ownsRow_base own67 e).1; omega)
        have hbw8 : Below w.heap.size w w8 := hbw7.trans (t8.below hs7 (fun g hg => by have := (ownsRow_base own67 hg).1; have := hmv.turn.size; omega))
        have hs8 := hbw8.size
        rw [← strs_append, List.take_append_drop] at ho8
        have hr8 : Rd w8 1 v' p.length (strs p) := by
          have := Rd.of_own ho8
          rwa [show n + (p.length - n) = p.length by omega] at this
        clear ho8 new8
        go_wp2_with fail
        refine (same_eq _ _ p _ (Rd.of_own hp8) hr8 (by omega)).mono ?_
        rintro e w9 ⟨rfl, n9, rfl⟩
        go_wp2_with fail
        refine (wakes_any _).mono ?_
        rintro e w10 ⟨rfl, hb10⟩
        go_wp2_with fail
        go_ret
        exact ⟨rfl, (below_drewN hbw8 n9).trans (hb10.mono (by simpa using hs8))⟩
end Go.Proofs.Ytjgdmdjndkkckaa
