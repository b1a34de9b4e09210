/-
  Packets held against each other, as the walk asks; the numbers of a list of packets.
-/
import Derived.Test.YtniiikgkeiomoaaAwake
namespace Go.Proofs.Ytniiikgkeiomoaa
open Go.RowKit Go.Maps

theorem run_eql_pk (p q : Pk) (w : World) : (binOp .eql 25 p.v q.v).run Try.prog w = .ok (.bool (pkEq p q)) w := by
  simp only [binOp]
  simp [Op.equal, Op.maxDepth, eqIn_pk p q w]
theorem run_neq_pk (p q : Pk) (w : World) : (binOp .neq 25 p.v q.v).run Try.prog w = .ok (.bool (!pkEq p q)) w := by
  simp only [binOp]
  simp [Op.equal, Op.maxDepth, eqIn_pk p q w]
theorem run_eql_pk_self (p : Pk) (w : World) : (binOp .eql 25 p.v p.v).run Try.prog w = .ok (.bool true) w := by rw [run_eql_pk, pkEq_self]
theorem run_neq_pk_self (p : Pk) (w : World) : (binOp .neq 25 p.v p.v).run Try.prog w = .ok (.bool false) w := by rw [run_neq_pk, pkEq_self]; rfl

theorem pkEq_eq {p q : Pk} (h : pkEq p q = true) : p = q := by
  obtain ⟨a, b, c⟩ := p
  obtain ⟨a', b', c'⟩ := q
  simp only [pkEq, Bool.and_eq_true, beq_iff_eq] at h
  obtain ⟨rfl, rfl, h⟩ := h
  have : c = c' := by
    have h2 : c.data.toList = c'.data.toList := by simpa [ByteArray.toList_eq] using h
    cases c; cases c'
    simp at h2
    rw [h2]
  rw [this]

/-- min(n, 60001). -/
def cap6 (n : Nat) : Nat := if n ≤ 60001 then n else 60001
theorem cap6_le (n : Nat) : cap6 n ≤ 60001 := by unfold cap6; split <;> omega
theorem run_min6 (n : Nat) (ts : Array TypeId) (t : TypeId) (w : World) : (Builtin.min_ ts t #[.int .i64 n, .int .i64 60001]).run Try.prog w = .ok (.int .i64 (cap6 n)) w := by
  rw [run_min_int2]
  unfold cap6
  by_cases h : (60001 : Int) < n
  · rw [if_pos h, if_neg (by omega)]; rfl
  · rw [if_neg h, if_pos (by omega)]

/-- How many bytes a list of packets holds, a packet's at most 60001. -/
def bytesOf (l : List Pk) : Nat := (l.map fun p => cap6 p.data.size).sum
theorem bytesOf_snoc (l : List Pk) (p : Pk) : bytesOf (l ++ [p]) = bytesOf l + cap6 p.data.size := by simp [bytesOf]
theorem bytesOf_le (l : List Pk) : bytesOf l ≤ l.length * 60001 := by
  induction l with
  | nil => simp [bytesOf]
  | cons p l ih =>
    have := cap6_le p.data.size
    simp only [bytesOf, List.map_cons, List.sum_cons, List.length_cons] at ih ⊢
    omega
end Go.Proofs.Ytniiikgkeiomoaa
