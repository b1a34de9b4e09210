/-
  RelayOrder: the walk.
-/
import Derived.Test.YtjgdmdjndkkckaaLow
import Derived.Test.YtjgdmdjndkkckaaSame
namespace Go.Proofs.Ytjgdmdjndkkckaa
open Go.Conc Go.RowKit

structure ActD where
  act : Int
  box : Int
  n : Int
  text : ByteArray
instance : Inhabited ActD := ⟨⟨0, 0, 0, ⟨#[]⟩⟩⟩
def actCells (x : ActD) : List Value := [.int .i64 x.act, .int .i64 x.box, .int .i64 x.n, .string x.text]
theorem actCells_len (x : ActD) : (actCells x).length = 4 := rfl

theorem act_at (l : List ActD) (k : Nat) (h : k < l.length) : (l.flatMap actCells)[k * 4]? = some (.int .i64 l[k].act) ∧ (l.flatMap actCells)[k * 4 + 1]? = some (.int .i64 l[k].box) ∧
    (l.flatMap actCells)[k * 4 + 2]? = some (.int .i64 l[k].n) ∧ (l.flatMap actCells)[k * 4 + 3]? = some (.string l[k].text) :=
  ⟨flat_at actCells_len l k 0 h (by omega), flat_at actCells_len l k 1 h (by omega), flat_at actCells_len l k 2 h (by omega), flat_at actCells_len l k 3 h (by omega)⟩

theorem len_n (b c cap : Nat) (l : List ByteArray) (L : Nat) (w : World) (h : IsBox w b c cap l) (hL : l.length = L) :
    Calls Try.prog 13 #[.pointer (some ⟨b, 0, none⟩)] w fun e w' => e = .returned (.int .i64 L) ∧ w = w' := by
  subst hL; exact len_ok b c cap l w h
theorem room_n (b c cap : Nat) (l : List ByteArray) (L : Nat) (w : World) (h : IsBox w b c cap l) (hm : cap ≤ 1024) (hs : L ≤ cap) (hL : l.length = L) :
    Calls Try.prog 10 #[.pointer (some ⟨b, 0, none⟩)] w fun e w' => e = .returned (.int .i64 ((cap : Int) - L)) ∧ ∃ n, w.drewN n = w' := by
  subst hL; exact room_ok b c cap l w h hm hs

theorem great_any (A : Option Addr) (n c : Nat) (w : World) : Calls Try.prog 7 #[.slice A n c] w fun e w' => e = .returned (.bool (decide ((300 : Int) < n))) ∧ w = w' := by
  go_enter Try.func7, Try.ntmps7
  go_wp2
  go_ret
  exact ⟨rfl, rfl⟩

/-- At a round's head. -/
def OrdRel (w : World) (b c cap k : Nat) (vp vo : Value) (wr : World) : Prop :=
  ∃ O q : List ByteArray, IsBox wr b c cap q ∧ q.length ≤ cap ∧ O.length + q.length ≤ k ∧ wr.ownsRow w.heap.size 9 1 vp (O.length + q.length) (strs (O ++ q)) ∧ wr.ownsRow w.heap.size 9 1 vo O.length (strs O) ∧
    (∀ g, vp.ownBlock = some g → vo.ownBlock ≠ some g) ∧ Below w.heap.size w wr

set_option maxRecDepth 100000 in
set_option maxHeartbeats 1000000 in
theorem order_ok (m : Nat) (h1 : 1 ≤ m) (h2 : m ≤ 1024) (vl : Value) (l : List ActD) (w : World) (hl : Rd w 4 vl l.length (l.flatMap actCells)) (hm : l.length ≤ 300) :
    Calls Try.prog 3 #[.int .i64 m, vl] w fun e w' => e = .returned (.bool true) ∧ Below w.heap.size w w' := by
  obtain ⟨i0, hi, hz0, hz1, hz2⟩ := info_parts info9
  have HR := hide hl
  obtain ⟨A, cA, rfl⟩ := hl.shape
  clear hl
  go_enter Try.func3, Try.ntmps3
  go_wp2_with fail
  refine (great_any _ _ _ _).mono ?_
  rintro e w' ⟨rfl, rfl⟩
  go_wp2_with fail
  refine (new_box m (by omega) (by omega) _).mono ?_
  rintro e w1 ⟨rfl, hn⟩
  rw [Int.toNat_natCast] at hn
  obtain ⟨hb0, hbel, hnb, hnc⟩ := hn
  generalize w.heap.size + 1 = b at *
  go_wp2_with fail
  go_loopw [7, 8, 9] (fun vp vo i wr => ∃ k : Nat, k ≤ l.length ∧ i = .int .i64 k ∧ OrdRel w b w.heap.size m k vp vo wr) (fun _ _ i _ => l.length - (intOf i).toNat)
  case atStart => exact ⟨0, by omega, rfl, [], [], hb0, by simp, by simp, World.ownsRow_nil _ _ _ _, World.ownsRow_nil _ _ _ _, by simp [Value.ownBlock], hbel⟩
  case round =>
    obtain ⟨k, hk, rfl, O, q, hbox, hqc, hlen, hp, ho, hne, hbw⟩ := hrel
    have HNE := hide hne
    clear hne
    by_cases hlt : k < l.length
    · obtain ⟨bl, ol, rfl, hbl, hcell⟩ := HR.out.cells (by omega)
      have c0 := (hbw.cell (p := ⟨bl, _, none⟩) hbl).trans (hcell _ _ (act_at l k hlt).1)
      have c3 := (hbw.cell (p := ⟨bl, _, none⟩) hbl).trans (hcell _ _ (act_at l k hlt).2.2.2)
      rw [← Nat.add_assoc] at c3
      generalize l[k] = x at *
      clear hcell
      obtain ⟨A1, C1, rfl⟩ := (Rd.of_own hp).shape
      obtain ⟨A2, C2, rfl⟩ := (Rd.of_own ho).shape
      by_cases hd0 : x.act = 0
      · by_cases hr : q.length < m
        · go_wp2_with fail
          refine (room_ok b _ m q _ hbox (by omega) (by omega)).mono ?_
          rintro e w2 ⟨rfl, n2, rfl⟩
          go_wp2_with fail
          refine (put_ok b _ m q x.text _ (show IsBox (wr.drewN n2) _ _ _ _ from hbox) hr).mono ?_
          rintro e w3 ⟨rfl, hb3⟩
          have c3' := (hb3.turn.cell (p := ⟨bl, ol + k * 4 + 3, none⟩) (show bl < wr.heap.size by have := hbw.size; omega) (show bl ≠ w.heap.size by omega)).trans c3
          have hp3 := ownsRow_turn (show (wr.drewN n2).ownsRow _ _ _ _ _ _ from hp) hb3.turn (fun g hg e => (hbox.row hp g hg).2 e)
          have ho3 := ownsRow_turn (show (wr.drewN n2).ownsRow _ _ _ _ _ _ from ho) hb3.turn (fun g hg e => (hbox.row ho g hg).2 e)
          go_wp2_with (at_builtin; refine wpList_append1 rfl (.tmp 66) (.tmp 72) 29 rfl w.heap.size 9 i0 _ 1 16 Try.underlying29 hi hz0 hz1 hz2 rfl (by decide) _ _ _ rfl hp3 [.string x.text] rfl rfl ?c1 ?c2 ?c3 ?c4 ?c5)
          case c1 => intro u hu; simp at hu; subst hu; rfl
          case c2 => omega
          case c3 => omega
          case c4 => have := hbw.size; have := hb3.turn.size; simp at this; omega
          intro v' w4 hp4 t4 new4
          have hb4 := hb3.box.turn t4 (fun e => (hb3.box.row hp3 _ e).1 rfl) (fun e => (hb3.box.row hp3 _ e).2 rfl)
          have ho4 := ownsRow_turn ho3 t4 (fun g hg e => HNE.out g e hg)
          have hbw4 : Below w.heap.size w w4 := (hbw.trans (((Turn.refl _ wr).drewN n2).below (S := fun _ => False) hbw.size (by simp))).trans ((hb3.turn.below (by simpa using hbw.size) (by intro k hk; omega)).trans (t4.below (by have := hbw.size; have := hb3.turn.size; simp at this; omega) (fun g hg => (ownsRow_base hp3 hg).1)))
          obtain ⟨A4, C4, hv4⟩ := (Rd.of_own hp4).shape
          have HNE4 : Hid (∀ g, v'.ownBlock = some g → (Value.slice A2 O.length C2).ownBlock ≠ some g) := by
            intro g hg hg2
            rcases new4 g hg with h | h
            · exact HNE.out g h hg2
            · have := (ownsRow_base ho3 hg2).2; omega
          rw [hv4] at HNE4
          rw [hv4] at hp4
          rw [hv4]
          clear hv4 hp3 ho3 hp ho new4
          go_wp2_with fail
          refine (len_n b _ m _ (q.length + 1) _ (by exact hb4) (by simp)).mono ?_
          rintro e w5 ⟨rfl, rfl⟩
          go_wp2_with fail
          refine (room_n b _ m _ (q.length + 1) _ (by exact hb4) (by omega) (by omega) (by simp)).mono ?_
          rintro e w6 ⟨rfl, n6, rfl⟩
          go_wp2_with fail
          refine (len_n b _ m _ (q.length + 1) _ (by exact hb4) (by simp)).mono ?_
          rintro e w7 ⟨rfl, rfl⟩
          go_wp2_with fail
          go_roundw
          case rel => exact ⟨k + 1, by omega, by go_num, O, q ++ [x.text], hb4, by simp; omega, by simp; omega, by show w4.ownsRow _ _ _ _ _ _; simpa [strs, Nat.add_assoc] using hp4, ho4, HNE4.out, below_drewN hbw4 _⟩
          case measure => simp [intOf]; omega
        · go_wp2_with fail
          refine (room_ok b _ m q _ hbox (by omega) (by omega)).mono ?_
          rintro e w2 ⟨rfl, n2, rfl⟩
          go_wp2_with fail
          refine (put_no b _ m q x.text _ (show IsBox (wr.drewN n2) _ _ _ _ from hbox) (by omega)).mono ?_
          rintro e w3 ⟨rfl, rfl⟩
          go_wp2_with fail
          refine (len_n b _ m _ q.length _ (by exact hbox) (by simp)).mono ?_
          rintro e w5 ⟨rfl, rfl⟩
          go_wp2_with fail
          refine (room_n b _ m _ q.length _ (by exact hbox) (by omega) (by omega) (by simp)).mono ?_
          rintro e w6 ⟨rfl, n6, rfl⟩
          go_wp2_with fail
          refine (len_n b _ m _ q.length _ (by exact hbox) (by simp)).mono ?_
          rintro e w7 ⟨rfl, rfl⟩
          go_wp2_with fail
          go_roundw
          case rel => exact ⟨k + 1, by omega, by go_num, O, q, hbox, by omega, by omega, hp, ho, HNE.out, below_drewN hbw _⟩
          case measure => simp [intOf]; omega
      · by_cases hd1 : x.act = 1
        · cases q with
          | nil =>
            go_wp2_with fail
            refine (take_no b _ m _ hbox).mono ?_
            rintro e w3 ⟨rfl, rfl⟩
            go_wp2_with fail
            refine (len_n b _ m _ 0 _ (by exact hbox) (by simp)).mono ?_
            rintro e w5 ⟨rfl, rfl⟩
            go_wp2_with fail
            refine (room_n b _ m _ 0 _ (by exact hbox) (by omega) (by omega) (by simp)).mono ?_
            rintro e w6 ⟨rfl, n6, rfl⟩
            go_wp2_with fail
            refine (len_n b _ m _ 0 _ (by exact hbox) (by simp)).mono ?_
            rintro e w7 ⟨rfl, rfl⟩
            go_wp2_with fail
            go_roundw
            case rel => exact ⟨k + 1, by omega, by go_num, O, [], hbox, by simp, by simp at hlen ⊢; omega, hp, ho, HNE.out, below_drewN hbw _⟩
            case measure => simp [intOf]; omega
          | cons y q =>
            simp only [List.length_cons] at hqc hlen hp
            go_wp2_with fail
            refine (take_ok b _ m q y _ hbox).mono ?_
            rintro e w3 ⟨rfl, hb3⟩
            have hp3 := ownsRow_turn hp hb3.turn (fun g hg e => (hbox.row hp g hg).2 e)
            have ho3 := ownsRow_turn ho hb3.turn (fun g hg e => (hbox.row ho g hg).2 e)
            go_wp2_with (at_builtin; refine wpList_append1 rfl (.tmp 83) (.tmp 85) 29 rfl w.heap.size 9 i0 _ 1 16 Try.underlying29 hi hz0 hz1 hz2 rfl (by decide) _ _ _ rfl ho3 [.string y] rfl rfl ?d1 ?d2 ?d3 ?d4 ?d5)
            case d1 => intro u hu; simp at hu; subst hu; rfl
            case d2 => omega
            case d3 => omega
            case d4 => have := hbw.size; have := hb3.turn.size; omega
            intro v' w4 ho4 t4 new4
            have hb4 := hb3.box.turn t4 (fun e => (hb3.box.row ho3 _ e).1 rfl) (fun e => (hb3.box.row ho3 _ e).2 rfl)
            have hp4 := ownsRow_turn hp3 t4 (fun g hg e => HNE.out g hg e)
            have hbw4 : Below w.heap.size w w4 := hbw.trans ((hb3.turn.below hbw.size (by intro k hk; omega)).trans (t4.below (by have := hbw.size; have := hb3.turn.size; omega) (fun g hg => (ownsRow_base ho3 hg).1)))
            obtain ⟨A4, C4, hv4⟩ := (Rd.of_own ho4).shape
            have HNE4 : Hid (∀ g, (Value.slice A1 (O.length + (q.length + 1)) C1).ownBlock = some g → v'.ownBlock ≠ some g) := by
              intro g hg hg2
              rcases new4 g hg2 with h | h
              · exact HNE.out g hg h
              · have := (ownsRow_base hp3 hg).2; omega
            rw [hv4] at HNE4
            rw [hv4] at ho4
            rw [hv4]
            clear hv4 hp3 ho3 hp ho new4
            go_wp2_with fail
            refine (len_n b _ m _ q.length _ (by exact hb4) (by simp)).mono ?_
            rintro e w5 ⟨rfl, rfl⟩
            go_wp2_with fail
            refine (room_n b _ m _ q.length _ (by exact hb4) (by omega) (by omega) (by simp)).mono ?_
            rintro e w6 ⟨rfl, n6, rfl⟩
            go_wp2_with fail
            refine (len_n b _ m _ q.length _ (by exact hb4) (by simp)).mono ?_
            rintro e w7 ⟨rfl, rfl⟩
            go_wp2_with fail
            go_roundw
            case rel => exact ⟨k + 1, by omega, by go_num, O ++ [y], q, hb4, by omega, by simp; omega, by show w4.ownsRow _ _ _ _ _ _; simpa [Nat.add_assoc, Nat.add_comm 1] using hp4, by show w4.ownsRow _ _ _ _ _ _; simpa [strs] using ho4, HNE4.out, below_drewN hbw4 _⟩
            case measure => simp [intOf]; omega
        · have hd0' : (x.act == 0) = false := by simp [hd0]
          have hd1' : (x.act == 1) = false := by simp [hd1]
          go_wp2_with fail
          refine (len_n b _ m _ q.length _ (by exact hbox) (by simp)).mono ?_
          rintro e w5 ⟨rfl, rfl⟩
          go_wp2_with fail
          refine (room_n b _ m _ q.length _ (by exact hbox) (by omega) (by omega) (by simp)).mono ?_
          rintro e w6 ⟨rfl, n6, rfl⟩
          go_wp2_with fail
          refine (len_n b _ m _ q.length _ (by exact hbox) (by simp)).mono ?_
          rintro e w7 ⟨rfl, rfl⟩
          go_wp2_with fail
          go_roundw
          case rel => exact ⟨k + 1, by omega, by go_num, O, q, hbox, by omega, by omega, hp, ho, HNE.out, below_drewN hbw _⟩
          case measure => simp [intOf]; omega
    · go_wp2_with fail
      refine (all_ok b _ m q _ hbox (by omega)).mono ?_
      rintro e w2 ⟨v, rfl, hb2, t2, own2⟩
      have hp2 := ownsRow_turn hp t2 (fun g hg e => (hbox.row hp g hg).2 e)
      have ho2 := ownsRow_turn ho t2 (fun g hg e => (hbox.row ho g hg).2 e)
      have hr2 := Rd.of_own own2
      have hbw2 : Below w.heap.size w w2 := hbw.trans (t2.below hbw.size (by intro k hk; omega))
      have hs2 := hbw2.size
      obtain ⟨A2, C2, hv2⟩ := hr2.shape
      rw [hv2] at hr2
      rw [hv2]
      clear hv2
      go_wp2_with (at_builtin; refine wpList_appendRd rfl (.tmp 104) (.tmp 106) 29 rfl w.heap.size 9 i0 _ 1 16 Try.underlying29 hi hz0 hz1 hz2 rfl (by decide) _ _ _ rfl ho2 _ _ _ rfl hr2 ?e1 ?e2 ?e3 ?e4 ?e5)
      case e1 => intro u hu; simp [strs] at hu; obtain ⟨y, _, rfl⟩ := hu; rfl
      case e2 => omega
      case e3 => omega
      case e4 => omega
      intro v' w4 ho4 t4 new4
      have hb4 := hb2.turn t4 (fun e => (hb2.row ho2 _ e).1 rfl) (fun e => (hb2.row ho2 _ e).2 rfl)
      have hp4 := ownsRow_turn hp2 t4 (fun g hg e => HNE.out g hg e)
      have hbw4 : Below w.heap.size w w4 := hbw2.trans (t4.below hs2 (fun g hg => (ownsRow_base ho2 hg).1))
      have hs4 := hbw4.size
      rw [← strs_append] at ho4
      go_wp2_with fail
      refine (same_eq _ _ (O ++ q) _ (by simpa using Rd.of_own hp4) (by simpa using Rd.of_own ho4) (by simp; omega)).mono ?_
      rintro e w5 ⟨rfl, n5, rfl⟩
      go_wp2_with fail
      refine (len_n b _ m _ 0 _ (by exact hb4) rfl).mono ?_
      rintro e w6 ⟨rfl, rfl⟩
      go_wp2_with fail
      refine (wakes_any _).mono ?_
      rintro e w7 ⟨rfl, hb7⟩
      go_wp2_with fail
      go_ret
      exact ⟨rfl, (below_drewN hbw4 n5).trans (hb7.mono (by simpa using hs4))⟩
end Go.Proofs.Ytjgdmdjndkkckaa
