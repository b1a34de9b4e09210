/-
  The net's own functions: of, closed, Waiting, place.
-/
import Derived.Test.YtniiikgkeiomoaaCut
import Derived.WalkSpells
import Derived.WalkLawsBesides
import Derived.Outline
import Derived.BigQuiet
import Derived.Deep.QuietTactic
import Derived.Deep.RegionHeld3
import Derived.Deep.RegionWith
namespace Go.Proofs.Ytniiikgkeiomoaa
open Go.RowKit Go.Maps

/-- The lesser, and the greater one. -/
def lo (a b : Int) : Int := if a ≤ b then a else b
def hi (a b : Int) : Int := if a ≤ b then b else a
def OfPost (a b : Int) (w : World) (e : Ending) (w' : World) : Prop := e = .returned (.agg #[.int .i64 (lo a b), .int .i64 (hi a b)]) ∧ Turn (fun _ => False) w w'
theorem of_any (a b : Int) (w : World) : Calls Try.prog 27 #[.int .i64 a, .int .i64 b] w (OfPost a b w) := by
  rcases (show a < b ∨ b < a ∨ a = b by omega) with h | h | rfl
  · go_enter Try.func27, Try.ntmps27
    go_wp2
    refine bodyPost_ret (v := .agg #[.int .i64 a, .int .i64 b]) (by simp [results, Try.results27, go_sem]) rfl ⟨?_, (Turn.refl _ w).alloc _⟩
    simp [lo, hi, show a ≤ b by omega]
  · go_enter Try.func27, Try.ntmps27
    go_wp2
    refine bodyPost_ret (v := .agg #[.int .i64 b, .int .i64 a]) (by simp [results, Try.results27, go_sem]) rfl ⟨?_, (Turn.refl _ w).alloc _⟩
    simp [lo, hi, show ¬ a ≤ b by omega]
  · go_enter Try.func27, Try.ntmps27
    go_wp2
    refine bodyPost_ret (v := .agg #[.int .i64 a, .int .i64 a]) (by simp [results, Try.results27, go_sem]) rfl ⟨?_, (Turn.refl _ w).alloc _⟩
    simp [lo, hi]

/-- A packet. -/
structure Pk where
  from_ : Int
  to_ : Int
  data : ByteArray
instance : Inhabited Pk := ⟨⟨0, 0, ⟨#[]⟩⟩⟩
def Pk.ok (p : Pk) : Prop := (Lit.int .i64 p.from_).wf = true ∧ (Lit.int .i64 p.to_).wf = true
abbrev Pk.v (p : Pk) : Value := .agg #[.int .i64 p.from_, .int .i64 p.to_, .string p.data]
def pkCells (p : Pk) : List Value := [.int .i64 p.from_, .int .i64 p.to_, .string p.data]
theorem pkCells_len (p : Pk) : (pkCells p).length = 3 := rfl
def cutOf (C : Cuts) (p : Pk) : Bool := C.f (lo p.from_ p.to_) (hi p.from_ p.to_)
theorem lo_wf {a b : Int} (ha : (Lit.int .i64 a).wf = true) (hb : (Lit.int .i64 b).wf = true) : (Lit.int .i64 (lo a b)).wf = true := by unfold lo; split <;> assumption
theorem hi_wf {a b : Int} (ha : (Lit.int .i64 a).wf = true) (hb : (Lit.int .i64 b).wf = true) : (Lit.int .i64 (hi a b)).wf = true := by unfold hi; split <;> assumption

/-- What closed is told, and what it leaves: nothing that was there has turned. -/
def Same (v : Value) (w : World) (e : Ending) (w' : World) : Prop := e = .returned v ∧ Turn (fun _ => False) w w'

set_option maxHeartbeats 1000000 in
theorem closed_any (nb m : Nat) (C : Cuts) (p : Pk) (w : World) (hp : p.ok) (hc : w.cell? ⟨nb, 1, none⟩ = some (.map (some m))) (hm : CutMap w m C) :
    Calls Try.prog 24 #[.pointer (some ⟨nb, 0, none⟩), p.v] w (Same (.bool (cutOf C p)) w) := by
  have hb := World.block_lt_of_cell? w _ hc
  obtain ⟨W, hW⟩ : ∃ W, W = w.alloc (.cells #[.int .i64 p.from_, .int .i64 p.to_, .string p.data] 25) := ⟨_, rfl⟩
  have tW : Turn (fun _ => False) w W := by rw [hW]; exact (Turn.refl _ w).alloc _
  have c1 : W.cell? ⟨nb, 1, none⟩ = some (.map (some m)) := (tW.cell (p := ⟨nb, 1, none⟩) hb (fun h => h)).trans hc
  have hmW : CutMap W m C := hm.turn tW (fun h => h)
  have f0 : W.cell? ⟨w.heap.size, 0, none⟩ = some (.int .i64 p.from_) := by rw [hW]; simp [go_sem]
  have f1 : W.cell? ⟨w.heap.size, 1, none⟩ = some (.int .i64 p.to_) := by rw [hW]; simp [go_sem]
  have hlt : w.heap.size < W.heap.size := by rw [hW]; simp
  have hbW : nb < W.heap.size := Nat.lt_of_lt_of_le hb tW.size
  have HW := hide hW
  clear hW hc hm
  go_enter Try.func24, Try.ntmps24
  go_wp2_with fail
  rw [← HW.out]
  go_region_held3 (fun w' => w'.cell? ⟨nb, 1, none⟩ = some (.map (some m)) ∧ w'.cell? ⟨w.heap.size, 0, none⟩ = some (.int .i64 p.from_) ∧ w'.cell? ⟨w.heap.size, 1, none⟩ = some (.int .i64 p.to_)) (go_keep)
    (first | (go_at_call 27; refine (of_any p.from_ p.to_ _).mono ?_; rintro e w1 ⟨rfl, t1⟩; have t1' : Turn (fun _ => False) W w1 := Turn.trans (by first | exact (Turn.refl _ _).drew | exact (Turn.refl _ _).drew.alloc _ | exact ((Turn.refl _ _).alloc _).drew) t1; have g0 := (t1'.cell (p := ⟨nb, 1, none⟩) hbW (fun h => h)).trans c1; have g1 := (t1'.cell (p := ⟨w.heap.size, 0, none⟩) hlt (fun h => h)).trans f0; have g2 := (t1'.cell (p := ⟨w.heap.size, 1, none⟩) hlt (fun h => h)).trans f1; have hlk := (hmW.turn t1' (fun h => h)).look _ _ (lo_wf hp.1 hp.2) (hi_wf hp.1 hp.2); have hlk2 := ((hmW.turn t1' (fun h => h)).turn ((Turn.refl (fun _ => False) w1).alloc (.cells #[] 53)) (fun h => h)).look _ _ (lo_wf hp.1 hp.2) (hi_wf hp.1 hp.2)))
  all_goals
    clear hlk hlk2 g0 g1 g2 c1 f0 f1
    go_wp2
    go_ret
    first | exact ⟨rfl, tW.trans t1'⟩ | exact ⟨rfl, (tW.trans t1').alloc _⟩

/-- Block nb is a net: these packets are on their way, these ways are cut. -/
structure IsNet (w : World) (base nb : Nat) (ps : List Pk) (C : Cuts) : Prop where
  ex : ∃ v m, w.heap[nb]? = some (.cells #[v, .map (some m)] 50 (0, 0)) ∧ w.ownsRow base 25 3 v ps.length (ps.flatMap pkCells) ∧ CutMap w m C ∧ base ≤ m ∧ base ≤ nb
  ok : ∀ p ∈ ps, p.ok

theorem cell2 {w : World} {b : Nat} {v0 v1 : Value} {t : TypeId} (h : w.heap[b]? = some (.cells #[v0, v1] t (0, 0))) : w.cell? ⟨b, 0, none⟩ = some v0 ∧ w.cell? ⟨b, 1, none⟩ = some v1 ∧ w.frozen? ⟨b, 0, none⟩ = false := by
  simp [World.cell?, World.frozen?, h]

theorem waiting_ok (base nb : Nat) (ps : List Pk) (C : Cuts) (w : World) (h : IsNet w base nb ps C) :
    Calls Try.prog 14 #[.pointer (some ⟨nb, 0, none⟩)] w fun e w' => e = .returned (.int .i64 ps.length) ∧ w = w' := by
  obtain ⟨⟨v, m, h1, h2, _⟩, _⟩ := h
  obtain ⟨A, c, rfl⟩ := (Rd.of_own h2).shape
  have c0 := (cell2 h1).1
  clear h1 h2
  go_enter Try.func14, Try.ntmps14
  go_wp2
  go_ret
  exact ⟨rfl, rfl⟩
theorem waiting_nil (w : World) : Calls Try.prog 14 #[.pointer none] w fun e w' => e = .returned (.int .i64 0) ∧ w = w' := by
  go_enter Try.func14, Try.ntmps14
  go_wp2
  go_ret
  exact ⟨rfl, rfl⟩

/-- Where the packet of a number is, of k. -/
def at_ (i : Int) (k : Nat) : Nat := (i % (k : Int)).toNat
theorem at_lt (i : Int) (k : Nat) (hk : 0 < k) : at_ i k < k := by
  unfold at_
  have h1 := Int.emod_nonneg i (show (k : Int) ≠ 0 by omega)
  have h2 := Int.emod_lt_of_pos i (show (0 : Int) < k by omega)
  omega
theorem at_eq (i : Int) (k : Nat) (hk : 0 < k) (hk2 : k ≤ 1000000) : (wrap64 (i.tmod k + k)).tmod k = (at_ i k : Int) := by
  have h0 : (0 : Int) < k := by omega
  have h1 : -(k : Int) < i.tmod k := by have := Int.lt_tmod_of_pos i h0; omega
  have h2 : i.tmod k < k := Int.tmod_lt_of_pos i h0
  rw [IntWalk.wrap64_in _ ⟨by omega, by omega⟩]
  have h3 : (i.tmod k + k).tmod k = (i.tmod k + k) % k := Int.tmod_eq_emod_of_nonneg (by omega)
  rw [h3, Int.add_emod_right]
  have h4 : i.tmod k % (k : Int) = i % k := by
    rw [Int.tmod_def]
    have : i - k * i.tdiv k = i + k * (- i.tdiv k) := by rw [Int.mul_neg]; omega
    rw [this, Int.add_mul_emod_self_left]
  rw [h4]
  unfold at_
  rw [Int.toNat_of_nonneg (Int.emod_nonneg i (by omega))]

theorem place_ok (base nb : Nat) (ps : List Pk) (C : Cuts) (i : Int) (w : World) (h : IsNet w base nb ps C) (hp : 0 < ps.length) (hm : ps.length ≤ 1000000) :
    Calls Try.prog 26 #[.pointer (some ⟨nb, 0, none⟩), .int .i64 i] w fun e w' => e = .returned (.tuple #[.int .i64 (at_ i ps.length), .bool true]) ∧ w = w' := by
  have H := hide h
  clear h
  have he := at_eq i ps.length hp hm
  go_enter Try.func26, Try.ntmps26
  go_wp2_with fail
  refine (waiting_ok base nb ps C _ H.out).mono ?_
  rintro e w' ⟨rfl, rfl⟩
  go_wp2
  go_ret2
  exact ⟨rfl, rfl⟩
theorem place_no (base nb : Nat) (C : Cuts) (i : Int) (w : World) (h : IsNet w base nb [] C) :
    Calls Try.prog 26 #[.pointer (some ⟨nb, 0, none⟩), .int .i64 i] w fun e w' => e = .returned (.tuple #[.int .i64 0, .bool false]) ∧ w = w' := by
  have H := hide h
  clear h
  go_enter Try.func26, Try.ntmps26
  go_wp2_with fail
  refine (waiting_ok base nb [] C _ H.out).mono ?_
  rintro e w' ⟨rfl, rfl⟩
  go_wp2
  go_ret2
  exact ⟨rfl, rfl⟩
theorem place_nil (i : Int) (w : World) : Calls Try.prog 26 #[.pointer none, .int .i64 i] w fun e w' => e = .returned (.tuple #[.int .i64 0, .bool false]) ∧ w = w' := by
  go_enter Try.func26, Try.ntmps26
  go_wp2_with fail
  refine (waiting_nil _).mono ?_
  rintro e w' ⟨rfl, rfl⟩
  go_wp2
  go_ret2
  exact ⟨rfl, rfl⟩
end Go.Proofs.Ytniiikgkeiomoaa
