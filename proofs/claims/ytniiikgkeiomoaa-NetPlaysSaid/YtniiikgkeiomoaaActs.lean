/-
  A list of acts; Great.
-/
import Derived.Test.YtniiikgkeiomoaaWays
import Derived.Test.YtniiikgkeiomoaaStep
namespace Go.Proofs.Ytniiikgkeiomoaa
open Go.RowKit Go.Maps

structure Ac where
  do_ : Int
  p : Pk
  i : Int
  on : Bool
instance : Inhabited Ac := ⟨⟨0, ⟨0, 0, ⟨#[]⟩⟩, 0, false⟩⟩
def acCells (x : Ac) : List Value := [.int .i64 x.do_, .int .i64 x.p.from_, .int .i64 x.p.to_, .string x.p.data, .int .i64 x.i, .bool x.on]
theorem acCells_len (x : Ac) : (acCells x).length = 6 := rfl
def Ac.ok (x : Ac) : Prop := x.p.ok ∧ x.p.data.size ≤ maxLen
abbrev abox (b : Nat) (x : Ac) : Thing := box b (.cells #[.int .i64 x.do_, .int .i64 x.p.from_, .int .i64 x.p.to_, .string x.p.data, .int .i64 x.i, .bool x.on] 40 (0, 0))
theorem ac_at (l : List Ac) (k : Nat) (h : k < l.length) : (l.flatMap acCells)[k * 6]? = some (.int .i64 l[k].do_) ∧ (l.flatMap acCells)[k * 6 + 1]? = some (.int .i64 l[k].p.from_) ∧ (l.flatMap acCells)[k * 6 + 2]? = some (.int .i64 l[k].p.to_) ∧ (l.flatMap acCells)[k * 6 + 3]? = some (.string l[k].p.data) ∧ (l.flatMap acCells)[k * 6 + 4]? = some (.int .i64 l[k].i) ∧ (l.flatMap acCells)[k * 6 + 5]? = some (.bool l[k].on) :=
  ⟨flat_at acCells_len l k 0 h (by omega), flat_at acCells_len l k 1 h (by omega), flat_at acCells_len l k 2 h (by omega), flat_at acCells_len l k 3 h (by omega), flat_at acCells_len l k 4 h (by omega), flat_at acCells_len l k 5 h (by omega)⟩
theorem rd_ac {w : World} {A : Option Addr} {c : Nat} {l : List Ac} (h : Rd w 6 (.slice A l.length c) l.length (l.flatMap acCells)) (k : Nat) (hk : k < l.length) :
    ∃ b o, A = some ⟨b, o, none⟩ ∧ b < w.heap.size ∧ w.cell? ⟨b, o + k * 6, none⟩ = some (.int .i64 l[k].do_) ∧ w.cell? ⟨b, o + k * 6 + 1, none⟩ = some (.int .i64 l[k].p.from_) ∧ w.cell? ⟨b, o + k * 6 + 2, none⟩ = some (.int .i64 l[k].p.to_) ∧ w.cell? ⟨b, o + k * 6 + 3, none⟩ = some (.string l[k].p.data) ∧ w.cell? ⟨b, o + k * 6 + 4, none⟩ = some (.int .i64 l[k].i) ∧ w.cell? ⟨b, o + k * 6 + 5, none⟩ = some (.bool l[k].on) := by
  obtain ⟨b, o, rfl, hb, hc⟩ := h.cells (by omega)
  obtain ⟨p0, p1, p2, p3, p4, p5⟩ := ac_at l k hk
  have q1 := hc _ _ p1
  have q2 := hc _ _ p2
  have q3 := hc _ _ p3
  have q4 := hc _ _ p4
  have q5 := hc _ _ p5
  rw [← Nat.add_assoc] at q1 q2 q3 q4 q5
  exact ⟨b, o, rfl, hb, hc _ _ p0, q1, q2, q3, q4, q5⟩
theorem cell6 {w : World} {b : Nat} {a0 a1 a2 a3 a4 a5 : Value} {t : TypeId} (h : w.heap[b]? = some (.cells #[a0, a1, a2, a3, a4, a5] t (0, 0))) :
    w.cell? ⟨b, 0, none⟩ = some a0 ∧ w.cell? ⟨b, 1, none⟩ = some a1 ∧ w.cell? ⟨b, 2, none⟩ = some a2 ∧ w.cell? ⟨b, 3, none⟩ = some a3 ∧ w.cell? ⟨b, 4, none⟩ = some a4 ∧ w.cell? ⟨b, 5, none⟩ = some a5 := by
  simp [World.cell?, h]

/-- What Great tells. -/
def GreatTells (n : Nat) (w : World) (e : Ending) (w' : World) : Prop := ∃ b : Bool, e = .returned (.bool b) ∧ (b = false → n ≤ 200) ∧ w = w'
def Count6 (l : List Ac) (k : Nat) (n : Value) : Prop := n = .int .i64 (bytesOf ((l.take k).map (·.p)) : Nat)
set_option maxRecDepth 100000 in
set_option maxHeartbeats 1000000 in
theorem great_any (vl : Value) (l : List Ac) (w : World) (hl : Rd w 6 vl l.length (l.flatMap acCells)) (hm : l.length ≤ maxLen) (hok : ∀ x ∈ l, x.ok) :
    Calls Try.prog 18 #[vl] w (GreatTells l.length w) := by
  replace hm : l.length ≤ 9223372036854775807 := by unfold maxLen at hm; omega
  have HR := hide hl
  obtain ⟨A, cA, rfl⟩ := hl.shape
  clear hl hok
  go_enter Try.func18, Try.ntmps18
  go_wp2_with fail
  go_loop [3, 4] (fun n i => ∃ k : Nat, k ≤ l.length ∧ k ≤ 201 ∧ i = .int .i64 k ∧ Count6 l k n) (fun _ i => l.length - (intOf i).toNat)
  case atStart => exact ⟨0, by omega, by omega, rfl, rfl⟩
  case round =>
    obtain ⟨k, hk, hk2, rfl, hn⟩ := hrel
    obtain ⟨s, hs⟩ : ∃ s : Nat, s = bytesOf ((l.take k).map (·.p)) := ⟨_, rfl⟩
    have hs2 : s ≤ 12060201 := by
      have := bytesOf_le ((l.take k).map (·.p))
      simp only [List.length_map, List.length_take] at this
      omega
    rw [Count6, ← hs] at hn
    subst hn
    by_cases hlt : k < l.length
    · by_cases h300 : k ≤ 200
      · obtain ⟨bl, ol, rfl, hbl, _, _, _, q3, _⟩ := rd_ac HR.out k hlt
        have hmin := fun ts t w => run_min6 l[k].p.data.size ts t w
        have hcap := cap6_le l[k].p.data.size
        have HS := hide hs
        clear hs
        go_wp2_with fail
        go_round
        case rel => exact ⟨k + 1, by omega, by omega, by go_num, by rw [Count6, take_snoc l k hlt, List.map_append, List.map_cons, List.map_nil, bytesOf_snoc, ← HS.out]; go_num⟩
        case measure => simp [intOf]; omega
      · have hbig : 200 < l.length := by omega
        go_wp2_with fail
        go_ret
        exact ⟨_, rfl, (fun h => by cases h), rfl⟩
    · by_cases hbig : 200 < l.length
      · go_wp2_with fail
        go_ret
        exact ⟨_, rfl, (fun h => by cases h), rfl⟩
      · by_cases hby : 60000 < s
        · go_wp2_with fail
          go_ret
          exact ⟨_, rfl, (fun _ => by omega), rfl⟩
        · clear hs hs2
          go_wp2_with fail
          go_ret
          exact ⟨_, rfl, (fun _ => by omega), rfl⟩
end Go.Proofs.Ytniiikgkeiomoaa
