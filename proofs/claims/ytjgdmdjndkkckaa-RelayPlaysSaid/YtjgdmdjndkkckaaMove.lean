/-
  Move and Either.
-/
import Derived.Test.YtjgdmdjndkkckaaOrder
import Derived.LaidEqlPtr
namespace Go.Proofs.Ytjgdmdjndkkckaa
open Go.Conc Go.RowKit

/-- How many are moved. -/
def mv (most : Int) (a r : Nat) : Nat := min most.toNat (min a r)

/-- A box's own block is no channel. -/
theorem IsBox.bc {w : World} {b c cap b' c' cap' : Nat} {l l' : List ByteArray} (h : IsBox w b c cap l) (h' : IsBox w b' c' cap' l') : c ≠ b' := by
  rintro rfl
  obtain ⟨_, s, r, h2⟩ := h
  rw [h'.1] at h2
  cases h2

structure MoveTo (w : World) (b1 c1 cap1 : Nat) (l1 : List ByteArray) (b2 c2 cap2 : Nat) (l2 : List ByteArray) (w' : World) : Prop where
  one : IsBox w' b1 c1 cap1 l1
  two : IsBox w' b2 c2 cap2 l2
  turn : Turn (fun k => k = c1 ∨ k = c2) w w'

theorem ptr_info : (Try.prog.info? 51).map (fun i => i.size) = some 1 := by kernel_rfl

theorem drop_cons {α : Type} (l : List α) (k : Nat) (h : k < l.length) : l.drop k = l[k] :: l.drop (k + 1) := by
  rw [List.drop_eq_getElem_cons h]
theorem take_snoc {α : Type} (l : List α) (k : Nat) (h : k < l.length) : l.take (k + 1) = l.take k ++ [l[k]] := by
  rw [List.take_succ_eq_append_getElem h]

def MvRel (w : World) (b1 c1 cap1 b2 c2 cap2 : Nat) (lf lt : List ByteArray) (most : Int) (g : Nat) (v : Value) (wr : World) : Prop :=
  ∃ k : Nat, v = .int .i64 k ∧ k + g = lf.length ∧ k ≤ mv most lf.length (cap2 - lt.length) ∧ MoveTo w b1 c1 cap1 (lf.drop k) b2 c2 cap2 (lt ++ lf.take k) wr

def MvPost (w : World) (b1 c1 cap1 b2 c2 cap2 : Nat) (lf lt : List ByteArray) (k : Nat) (e : Ending) (w' : World) : Prop :=
  e = .returned (.int .i64 k) ∧ MoveTo w b1 c1 cap1 (lf.drop k) b2 c2 cap2 (lt ++ lf.take k) w'

theorem mvPost_of {w : World} {b1 c1 cap1 b2 c2 cap2 : Nat} {lf lt : List ByteArray} {k k' : Nat} {w' : World} (h : MoveTo w b1 c1 cap1 (lf.drop k) b2 c2 cap2 (lt ++ lf.take k) w') (e : k = k') :
    MvPost w b1 c1 cap1 b2 c2 cap2 lf lt k' (.returned (.int .i64 k)) w' := by
  subst e; exact ⟨rfl, h⟩

set_option maxRecDepth 100000 in
set_option maxHeartbeats 1000000 in
theorem move_ok (b1 c1 cap1 b2 c2 cap2 : Nat) (lf lt : List ByteArray) (most : Int) (w : World) (h1 : IsBox w b1 c1 cap1 lf) (h2 : IsBox w b2 c2 cap2 lt) (hb : b1 ≠ b2) (hc : c1 ≠ c2)
    (hm1 : lf.length ≤ 1024) (hm : cap2 ≤ 1024) (hs : lt.length ≤ cap2) :
    Calls Try.prog 16 #[.pointer (some ⟨b1, 0, none⟩), .pointer (some ⟨b2, 0, none⟩), .int .i64 most] w (MvPost w b1 c1 cap1 b2 c2 cap2 lf lt (mv most lf.length (cap2 - lt.length))) := by
  have k1 := h1.cell
  have k2 := h2.cell
  have e1 : (b1 == b2) = false := by simp [hb]
  obtain ⟨i51, hi51, hs51⟩ := Option.map_eq_some_iff.1 ptr_info
  have hne := run_eql_ptr_other (P := Try.prog) w Try.underlying25 hi51 (by omega) (a := ⟨b1, 0, none⟩) (b := ⟨b2, 0, none⟩) (fun e => hb (by injection e)) h1.1 h2.1
  go_enter Try.func16, Try.ntmps16
  go_wp2_with fail
  refine (none_box b1 c1 _ k1).mono ?_
  rintro e w' ⟨rfl, rfl⟩
  go_wp2_with fail
  refine (none_box b2 c2 _ k2).mono ?_
  rintro e w' ⟨rfl, rfl⟩
  go_wp2_with fail
  clear hne k1 k2
  have HB := hide hb
  have HC := hide hc
  clear hb hc
  go_loopg [7] lf.length (fun g v wr => MvRel w b1 c1 cap1 b2 c2 cap2 lf lt most g v wr)
  case atStart => exact ⟨0, rfl, by omega, by omega, by simpa using h1, by simpa using h2, Turn.refl _ _⟩
  case round =>
    obtain ⟨k, rfl, hk, hkm, hmv⟩ := hrel
    have HK := hide hk
    have hkl : k ≤ lf.length := by omega
    clear hk
    unfold mv at hkm
    by_cases a1 : (k : Int) < most
    · by_cases a2 : lt.length + k < cap2
      · by_cases a3 : k < lf.length
        · go_wp2_with fail
          refine (room_n b2 c2 cap2 _ (lt.length + k) _ hmv.two hm (by omega) (by simp; omega)).mono ?_
          rintro e w2 ⟨rfl, n2, rfl⟩
          have hmv2 := hmv
          rw [drop_cons lf k a3] at hmv2
          go_wp2_with fail
          refine (take_ok b1 c1 cap1 _ _ _ (by exact hmv2.one)).mono ?_
          rintro e w3 ⟨rfl, hb3⟩
          have h23 : IsBox w3 b2 c2 cap2 (lt ++ lf.take k) := (show IsBox (wr.drewN n2) _ _ _ _ from hmv.two).turn hb3.turn (fun e => hmv2.one.bc hmv.two e.symm) (fun e => HC.out e.symm)
          go_wp2_with fail
          refine (put_ok b2 c2 cap2 _ _ _ h23 (by simp; omega)).mono ?_
          rintro e w4 ⟨rfl, hb4⟩
          have h14 : IsBox w4 b1 c1 cap1 (lf.drop (k + 1)) := hb3.box.turn hb4.turn (fun e => h23.bc hb3.box e.symm) (fun e => HC.out e)
          go_wp2_with fail
          go_roundg (gk - 1)
          case measure => have := HK.out; omega
          case rel =>
            have hK := HK.out
            refine ⟨k + 1, by go_num, by omega, by unfold mv; omega, h14, by rw [take_snoc lf k a3, ← List.append_assoc]; exact hb4.box, ?_⟩
            exact ((hmv.turn.drewN n2).step hb3.turn (fun _ _ e => .inl e)).step hb4.turn (fun _ _ e => .inr e)
        · go_wp2_with fail
          refine (room_n b2 c2 cap2 _ (lt.length + k) _ hmv.two hm (by omega) (by simp; omega)).mono ?_
          rintro e w2 ⟨rfl, n2, rfl⟩
          have hmv2 := hmv
          rw [List.drop_eq_nil_of_le (show lf.length ≤ k by omega)] at hmv2
          go_wp2_with fail
          refine (take_no b1 c1 cap1 _ (by exact hmv2.one)).mono ?_
          rintro e w3 ⟨rfl, rfl⟩
          go_wp2_with fail
          go_ret
          exact mvPost_of ⟨hmv.one, hmv.two, hmv.turn.drewN n2⟩ (by unfold mv; omega)
      · go_wp2_with fail
        refine (room_n b2 c2 cap2 _ (lt.length + k) _ hmv.two hm (by omega) (by simp; omega)).mono ?_
        rintro e w2 ⟨rfl, n2, rfl⟩
        go_wp2_with fail
        go_ret
        exact mvPost_of ⟨hmv.one, hmv.two, hmv.turn.drewN n2⟩ (by unfold mv; omega)
    · go_wp2_with fail
      go_ret
      exact mvPost_of hmv (by unfold mv; omega)
end Go.Proofs.Ytjgdmdjndkkckaa
