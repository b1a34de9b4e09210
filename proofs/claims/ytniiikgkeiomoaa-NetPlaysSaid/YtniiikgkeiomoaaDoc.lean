/-
  The document's net: its block, its packets' row, its ways' row; its small functions.
-/
import Derived.Test.YtniiikgkeiomoaaTrue
namespace Go.Proofs.Ytniiikgkeiomoaa
open Go.RowKit Go.Maps

theorem info69 : (Try.prog.info? 69).map (fun i => (i.zero, i.size, i.bytes)) = some (some (.agg #[.int .i64 0, .int .i64 0]), 2, 16) := by kernel_rfl
def wyCells (p : Int × Int) : List Value := [.int .i64 p.1, .int .i64 p.2]
theorem wyCells_len (p : Int × Int) : (wyCells p).length = 2 := rfl
theorem wy_oneCell (p : Int × Int) : ∀ u ∈ wyCells p, u.oneCell' = true := by
  intro u hu
  simp only [wyCells, List.mem_cons, List.not_mem_nil, or_false] at hu
  rcases hu with rfl | rfl <;> rfl
/-- Is a way of two numbers among these? -/
def isCut (ws : List (Int × Int)) (a b : Int) : Bool := ws.any fun p => (p.1 == a && p.2 == b) || (p.1 == b && p.2 == a)
abbrev docT (base dn : Nat) (v1 v2 : Value) (ps : List Pk) (ws : List (Int × Int)) (ts : List Thing) : List Thing :=
  box dn (.cells #[v1, v2] 61 (0, 0)) :: row base 25 3 v1 ps.length (ps.flatMap pkCells) :: row base 69 2 v2 ws.length (ws.flatMap wyCells) :: ts
def DocTells (v : Value) (base : Nat) (w0 : World) (dn : Nat) (ps : List Pk) (ws : List (Int × Int)) (ts : List Thing) (e : Ending) (w' : World) : Prop :=
  e = .returned v ∧ ∃ v1 v2, Lie base w0 w' (docT base dn v1 v2 ps ws ts)
theorem wy_at (l : List (Int × Int)) (k : Nat) (h : k < l.length) : (l.flatMap wyCells)[k * 2]? = some (.int .i64 l[k].1) ∧ (l.flatMap wyCells)[k * 2 + 1]? = some (.int .i64 l[k].2) :=
  ⟨flat_at wyCells_len l k 0 h (by omega), flat_at wyCells_len l k 1 h (by omega)⟩
theorem rd_wy {w : World} {A : Option Addr} {c : Nat} {l : List (Int × Int)} (h : Rd w 2 (.slice A l.length c) l.length (l.flatMap wyCells)) (k : Nat) (hk : k < l.length) :
    ∃ b o, A = some ⟨b, o, none⟩ ∧ b < w.heap.size ∧ w.cell? ⟨b, o + k * 2, none⟩ = some (.int .i64 l[k].1) ∧ w.cell? ⟨b, o + k * 2 + 1, none⟩ = some (.int .i64 l[k].2) := by
  obtain ⟨b, o, rfl, hb, hc⟩ := h.cells (by omega)
  obtain ⟨p0, p1⟩ := wy_at l k hk
  have q1 := hc _ _ p1
  rw [← Nat.add_assoc] at q1
  exact ⟨b, o, rfl, hb, hc _ _ p0, q1⟩

theorem ret_int {k : IntKind} {a b : Int} (h : a = b) : Ending.returned (.int k a) = .returned (.int k b) := by rw [h]
theorem ret_bool {a b : Bool} (h : a = b) : Ending.returned (.bool a) = .returned (.bool b) := by rw [h]
theorem dnew_any {base : Nat} {w0 w : World} {ts : List Thing} (h : Lie base w0 w ts) : Calls Try.prog 20 #[] w fun e w' => e = .returned (ptr (some w.heap.size)) ∧ Lie base w0 w' (docT base w.heap.size (.slice none 0 0) (.slice none 0 0) [] [] ts) := by
  go_enter Try.func20, Try.ntmps20
  go_wp2
  go_ret
  exact ⟨rfl, ((((h.nil_row 69 2).nil_row 25 3).alloc _))⟩
theorem dplace (i : Int) (k : Nat) (w : World) (hk : 0 < k) (hk2 : k ≤ 1000000) (hi : (Lit.int .i64 i).wf = true) : Calls Try.prog 34 #[.int .i64 i, .int .i64 k] w fun e w' => e = .returned (.int .i64 (at_ i k)) ∧ w = w' := by
  have h0 : (0 : Int) < k := by omega
  have h1 : -(k : Int) < i.tmod k := by have := Int.lt_tmod_of_pos i h0; omega
  have h2 : i.tmod k < k := Int.tmod_lt_of_pos i h0
  have h4 : i.tmod k % (k : Int) = i % k := by
    rw [Int.tmod_def]
    have : i - k * i.tdiv k = i + k * (- i.tdiv k) := by rw [Int.mul_neg]; omega
    rw [this, Int.add_mul_emod_self_left]
  have h5 : ((at_ i k : Nat) : Int) = i % k := by unfold at_; rw [Int.toNat_of_nonneg (Int.emod_nonneg i (by omega))]
  have H4 := hide h4
  have H5 := hide h5
  clear h4 h5 hi
  have hkz : ((k : Int) == 0) = false := beq_eq_false_iff_ne.2 (by omega)
  have hw : ∀ r : Int, -(k : Int) < r → r < 0 → IntKind.i64.wrap (r + k) = r + k := fun r a b => IntWalk.i64_in _ (by omega)
  by_cases hr : i.tmod k < 0
  · have e : i.tmod k + k = ((at_ i k : Nat) : Int) := by
      rw [H5.out, ← H4.out]
      generalize i.tmod (k : Int) = r at *
      rw [← Int.add_emod_right, Int.emod_eq_of_lt (by omega) (by omega)]
    clear hw H4 H5
    have E := hide e
    clear e
    go_enter Try.func34, Try.ntmps34
    go_wp2
    go_ret
    exact ⟨ret_int E.out, rfl⟩
  · have e : i.tmod k = ((at_ i k : Nat) : Int) := by
      rw [H5.out, ← H4.out]
      generalize i.tmod (k : Int) = r at *
      rw [Int.emod_eq_of_lt (by omega) (by omega)]
    clear hw H4 H5
    have E := hide e
    clear e
    go_enter Try.func34, Try.ntmps34
    go_wp2
    go_ret
    exact ⟨ret_int E.out, rfl⟩

section
variable {base : Nat} {w0 w : World} {ts : List Thing} {dn : Nat} {v1 v2 : Value} {ps : List Pk} {ws : List (Int × Int)}
theorem dwaiting (h : Lie base w0 w (docT base dn v1 v2 ps ws ts)) : Calls Try.prog 22 #[.pointer (some ⟨dn, 0, none⟩)] w fun e w' => e = .returned (.int .i64 ps.length) ∧ w = w' := by
  have h1 : w.heap[dn]? = some (.cells #[v1, v2] 61 (0, 0)) := h.get 0 rfl
  obtain ⟨A, c, rfl⟩ := (Rd.of_own (h.get 1 rfl)).shape
  have c0 := (cell2 h1).1
  clear h h1
  go_enter Try.func22, Try.ntmps22
  go_wp2
  go_ret
  exact ⟨rfl, rfl⟩

theorem isCut_take (ws : List (Int × Int)) (a b : Int) (k : Nat) (hk : k < ws.length) : isCut (ws.take (k + 1)) a b = (isCut (ws.take k) a b || ((ws[k].1 == a && ws[k].2 == b) || (ws[k].1 == b && ws[k].2 == a))) := by
  unfold isCut
  rw [take_snoc ws k hk, List.any_append]
  simp
theorem isCut_at (ws : List (Int × Int)) (a b : Int) (k : Nat) (hk : k < ws.length) (h : ((ws[k].1 == a && ws[k].2 == b) || (ws[k].1 == b && ws[k].2 == a)) = true) : isCut ws a b = true := by
  unfold isCut
  rw [List.any_eq_true]
  exact ⟨ws[k], List.getElem_mem hk, h⟩
def IsInv (base : Nat) (w0 : World) (dn : Nat) (v1 v2 : Value) (ps : List Pk) (ws : List (Int × Int)) (ts : List Thing) (a b : Int) (k : Nat) (wr : World) : Prop :=
  isCut (ws.take k) a b = false ∧ Lie base w0 wr (docT base dn v1 v2 ps ws ts)
set_option maxHeartbeats 1000000 in
theorem dis (h : Lie base w0 w (docT base dn v1 v2 ps ws ts)) (a b : Int) (hm : ws.length ≤ 1000000) :
    Calls Try.prog 36 #[.pointer (some ⟨dn, 0, none⟩), .int .i64 a, .int .i64 b] w (DocTells (.bool (isCut ws a b)) base w0 dn ps ws ts) := by
  obtain ⟨A, c, rfl⟩ := (Rd.of_own (h.get 2 rfl)).shape
  have I0 : IsInv base w0 dn v1 (.slice A ws.length c) ps ws ts a b 0 w := ⟨rfl, h⟩
  clear h
  go_enter Try.func36, Try.ntmps36
  go_wp2_with fail
  obtain ⟨wo, rfl⟩ : ∃ wo : World, wo = w := ⟨_, rfl⟩
  go_loopw [7] (fun i wr => ∃ k : Nat, k ≤ ws.length ∧ i = .int .i64 k ∧ IsInv base w0 dn v1 (.slice A ws.length c) ps ws ts a b k wr) (fun i _ => ws.length - (intOf i).toNat)
  case atStart => exact ⟨0, by omega, rfl, I0⟩
  case round =>
    clear I0
    obtain ⟨k, hk, rfl, hno, hS⟩ := hrel
    have h1 : wr.heap[dn]? = some (.cells #[v1, .slice A ws.length c] 61 (0, 0)) := hS.get 0 rfl
    have c1 := (cell2 h1).2.1
    have HS := hide hS
    have HN := hide hno
    clear h1 hno hS
    by_cases hlt : k < ws.length
    · obtain ⟨bl, ol, rfl, hbl, q0, q1⟩ := rd_wy (Rd.of_own (HS.out.get 2 rfl)) k hlt
      have hki : (k : Int) < (ws.length : Int) := by omega
      have hst := hide (isCut_take ws a b k hlt)
      have hat := hide (isCut_at ws a b k hlt)
      generalize ws[k] = p at *
      obtain ⟨x, y⟩ := p
      by_cases e1 : x = a ∧ y = b
      · obtain ⟨rfl, rfl⟩ := e1
        go_wp2_with fail
        go_ret
        exact ⟨ret_bool (hat.out (by simp)).symm, _, _, HS.out.skip _⟩
      · by_cases e2 : x = b ∧ y = a
        · obtain ⟨rfl, rfl⟩ := e2
          have hxy : (x == y) = false := by simp; intro h; exact e1 ⟨h, h.symm⟩
          have hyx : (y == x) = false := by simp; intro h; exact e1 ⟨h.symm, h⟩
          clear e1
          go_wp2_with fail
          go_ret
          exact ⟨ret_bool (hat.out (by simp)).symm, _, _, HS.out.skip _⟩
        · have HI : Hid (IsInv base w0 dn v1 (.slice (some ⟨bl, ol, none⟩) ws.length c) ps ws ts a b (k + 1) (wr.alloc (.cells #[.int .i64 x, .int .i64 y] 69))) := ⟨by
            rw [hst.out, HN.out]
            simp
            exact ⟨fun h1 h2 => e1 ⟨h1, h2⟩, fun h1 h2 => e2 ⟨h1, h2⟩⟩, HS.out.skip _⟩
          by_cases t1 : x = a
          · have f1 : (x == a) = true := by simpa using t1
            have f2 : (y == b) = false := by simp; exact fun h => e1 ⟨t1, h⟩
            by_cases t2 : x = b
            · have f3 : (x == b) = true := by simpa using t2
              have f4 : (y == a) = false := by simp; exact fun h => e2 ⟨t2, h⟩
              clear e1 e2 t1 t2
              go_wp2_with fail
              go_roundw
              case rel => exact ⟨k + 1, by omega, by go_num, HI.out⟩
              case measure => simp [intOf]; omega
            · have f3 : (x == b) = false := by simpa using t2
              clear e1 e2 t1 t2
              go_wp2_with fail
              go_roundw
              case rel => exact ⟨k + 1, by omega, by go_num, HI.out⟩
              case measure => simp [intOf]; omega
          · have f1 : (x == a) = false := by simpa using t1
            by_cases t2 : x = b
            · have f3 : (x == b) = true := by simpa using t2
              have f4 : (y == a) = false := by simp; exact fun h => e2 ⟨t2, h⟩
              clear e1 e2 t1 t2
              go_wp2_with fail
              go_roundw
              case rel => exact ⟨k + 1, by omega, by go_num, HI.out⟩
              case measure => simp [intOf]; omega
            · have f3 : (x == b) = false := by simpa using t2
              clear e1 e2 t1 t2
              go_wp2_with fail
              go_roundw
              case rel => exact ⟨k + 1, by omega, by go_num, HI.out⟩
              case measure => simp [intOf]; omega
    · obtain rfl : k = ws.length := by omega
      have hno := HN.out
      rw [List.take_length] at hno
      have HNN := hide hno
      clear hno
      go_wp2_with fail
      go_ret
      exact ⟨ret_bool HNN.out.symm, _, _, HS.out⟩
end
end Go.Proofs.Ytniiikgkeiomoaa
