/-
  Keys: strings by their bytes; rising lists of keys with values. No program in sight.
-/
import Derived.Test.YtcaeechlpadboaaRange
import Derived.Lib.Bytealg
namespace Go.Proofs.Ytcaeechlpadboaa
open Go.RowKit Go.Lib

theorem cl_self : ∀ a : List UInt8, compareBytes a a = 0
  | [] => rfl
  | x :: a => by unfold compareBytes; rw [if_neg (UInt8.lt_irrefl x), if_neg (UInt8.lt_irrefl x)]; exact cl_self a
theorem cl_neg : ∀ a b : List UInt8, compareBytes b a = - compareBytes a b
  | [], [] => rfl
  | [], _ :: _ => rfl
  | _ :: _, [] => rfl
  | x :: a, y :: b => by
    unfold compareBytes
    by_cases h1 : x < y
    · rw [if_neg (UInt8.lt_asymm h1), if_pos h1, if_pos h1]; rfl
    · rw [if_neg h1]
      by_cases h2 : y < x
      · rw [if_pos h2, if_neg h1, if_pos h2]
      · rw [if_neg h2, if_neg h1, if_neg h2]; exact cl_neg a b
theorem cl_eq : ∀ a b : List UInt8, compareBytes a b = 0 → a = b
  | [], [], _ => rfl
  | [], _ :: _, h => by simp [compareBytes] at h
  | _ :: _, [], h => by simp [compareBytes] at h
  | x :: a, y :: b, h => by
    unfold compareBytes at h
    by_cases h1 : x < y
    · rw [if_pos h1] at h; exact absurd h (by decide)
    · rw [if_neg h1] at h
      by_cases h2 : y < x
      · rw [if_pos h2] at h; exact absurd h (by decide)
      · rw [if_neg h2] at h
        rw [cl_eq a b h, UInt8.le_antisymm (UInt8.not_lt.1 h2) (UInt8.not_lt.1 h1)]
theorem cl_trans : ∀ a b c : List UInt8, compareBytes a b < 0 → compareBytes b c < 0 → compareBytes a c < 0
  | [], [], c, h, _ => by simp [compareBytes] at h
  | [], _ :: _, [], _, h => by simp [compareBytes] at h
  | [], _ :: _, _ :: _, _, _ => by simp [compareBytes]
  | _ :: _, [], _, h, _ => by simp [compareBytes] at h
  | _ :: _, _ :: _, [], _, h => by simp [compareBytes] at h
  | x :: a, y :: b, z :: c, h1, h2 => by
    unfold compareBytes at h1 h2 ⊢
    by_cases a1 : x < y
    · by_cases a2 : y < z
      · rw [if_pos (UInt8.lt_trans a1 a2)]; decide
      · rw [if_neg a2] at h2
        by_cases a3 : z < y
        · rw [if_pos a3] at h2; exact absurd h2 (by decide)
        · have e : y = z := UInt8.le_antisymm (UInt8.not_lt.1 a3) (UInt8.not_lt.1 a2)
          rw [if_pos (e ▸ a1)]; decide
    · rw [if_neg a1] at h1
      by_cases a3 : y < x
      · rw [if_pos a3] at h1; exact absurd h1 (by decide)
      · have e : x = y := UInt8.le_antisymm (UInt8.not_lt.1 a3) (UInt8.not_lt.1 a1)
        rw [if_neg a3] at h1
        subst e
        by_cases a2 : x < z
        · rw [if_pos a2]; decide
        · rw [if_neg a2] at h2 ⊢
          by_cases a4 : z < x
          · rw [if_pos a4] at h2; exact absurd h2 (by decide)
          · rw [if_neg a4] at h2 ⊢
            exact cl_trans a b c h1 h2

/-- How two keys stand. -/
def kc (a b : ByteArray) : Int := compareBytes a.data.toList b.data.toList
theorem kc_self (a : ByteArray) : kc a a = 0 := cl_self _
theorem kc_neg (a b : ByteArray) : kc b a = - kc a b := cl_neg _ _
theorem kc_eq {a b : ByteArray} (h : kc a b = 0) : a = b := by
  have := cl_eq _ _ h
  cases a; cases b
  simp at this
  rw [this]
theorem kc_zero {a b : ByteArray} : kc a b = 0 ↔ a = b := ⟨kc_eq, fun h => h ▸ kc_self a⟩
theorem kc_trans {a b c : ByteArray} (h1 : kc a b < 0) (h2 : kc b c < 0) : kc a c < 0 := cl_trans _ _ _ h1 h2
theorem kc_irrefl {a : ByteArray} (h : kc a a < 0) : False := by rw [kc_self] at h; omega
theorem kc_le_trans {a b c : ByteArray} (h1 : kc a b ≤ 0) (h2 : kc b c < 0) : kc a c < 0 := by
  rcases Int.lt_or_eq_of_le h1 with h | h
  · exact kc_trans h h2
  · rw [kc_eq h]; exact h2

section
variable {α : Type}
/-- Rising. -/
def Srt (xs : List (ByteArray × α)) : Prop := xs.Pairwise fun x y => kc x.1 y.1 < 0
/-- Where a key is, or would be. -/
def pos (xs : List (ByteArray × α)) (k : ByteArray) : Nat := xs.countP fun x => decide (kc x.1 k < 0)
/-- Is it there? -/
def has (xs : List (ByteArray × α)) (k : ByteArray) : Bool := xs.any fun x => decide (x.1 = k)
theorem pos_le (xs : List (ByteArray × α)) (k : ByteArray) : pos xs k ≤ xs.length := List.countP_le_length
theorem pos_cons_lt (x : ByteArray × α) (xs : List (ByteArray × α)) (k : ByteArray) (h : kc x.1 k < 0) : pos (x :: xs) k = pos xs k + 1 := by
  unfold pos; rw [List.countP_cons_of_pos (by simpa using h)]
theorem pos_zero (xs : List (ByteArray × α)) (k : ByteArray) (h : ∀ x ∈ xs, ¬ kc x.1 k < 0) : pos xs k = 0 := by
  unfold pos; rw [List.countP_eq_zero]; intro x hx; simpa using h x hx
theorem pos_ahead (xs : List (ByteArray × α)) (k : ByteArray) (hs : Srt xs) (i : Nat) (hi : i < xs.length) : (i < pos xs k ↔ kc (xs[i]).1 k < 0) := by
  induction xs generalizing i with
  | nil => simp at hi
  | cons x xs ih =>
    have hs' := List.pairwise_cons.1 hs
    by_cases hx : kc x.1 k < 0
    · rw [pos_cons_lt x xs k hx]
      cases i with
      | zero => simpa using hx
      | succ i =>
        have := ih hs'.2 i (by simpa using hi)
        simp only [List.getElem_cons_succ]
        rw [← this]
        omega
    · have hz : pos (x :: xs) k = 0 := by
        apply pos_zero
        intro y hy
        rcases List.mem_cons.1 hy with rfl | hy
        · exact hx
        · intro h2
          exact hx (kc_trans (hs'.1 y hy) h2)
      rw [hz]
      constructor
      · intro h; omega
      · intro h
        exfalso
        cases i with
        | zero => exact hx h
        | succ i =>
          simp only [List.getElem_cons_succ] at h
          exact hx (kc_trans (hs'.1 _ (List.getElem_mem _)) h)
/-- The place by its neighbours. -/
theorem pos_is (xs : List (ByteArray × α)) (k : ByteArray) (hs : Srt xs) (i : Nat) (hi : i ≤ xs.length) (h1 : ∀ t (ht : t < xs.length), t < i → kc (xs[t]).1 k < 0) (h2 : ∀ t (ht : t < xs.length), i ≤ t → ¬ kc (xs[t]).1 k < 0) : pos xs k = i := by
  have hl := pos_le xs k
  rcases Nat.lt_trichotomy (pos xs k) i with h | h | h
  · exfalso
    have := (pos_ahead xs k hs (pos xs k) (by omega)).2 (h1 _ (by omega) h)
    omega
  · exact h
  · exfalso
    exact h2 i (by omega) (Nat.le_refl _) ((pos_ahead xs k hs i (by omega)).1 h)
theorem has_pos (xs : List (ByteArray × α)) (k : ByteArray) (hs : Srt xs) : has xs k = true ↔ ∃ h : pos xs k < xs.length, (xs[pos xs k]).1 = k := by
  unfold has
  rw [List.any_eq_true]
  constructor
  · rintro ⟨x, hx, e⟩
    simp at e
    obtain ⟨i, hi, rfl⟩ := List.getElem_of_mem hx
    have hp : pos xs k = i := by
      have n1 : ¬ i < pos xs k := fun h => by
        have := (pos_ahead xs k hs i hi).1 h
        rw [e] at this
        exact kc_irrefl this
      have n2 : ¬ pos xs k < i := fun h => by
        have hlt : pos xs k < xs.length := by omega
        have h3 : kc (xs[pos xs k]).1 (xs[i]).1 < 0 := List.pairwise_iff_getElem.1 hs _ _ hlt hi h
        rw [e] at h3
        have := (pos_ahead xs k hs _ hlt).2 h3
        omega
      omega
    exact ⟨by omega, by simp only [hp]; exact e⟩
  · rintro ⟨h, e⟩
    exact ⟨_, List.getElem_mem h, by simpa using e⟩
/-- What stands at the place is not less; equal just where the key is there. -/
theorem has_iff (xs : List (ByteArray × α)) (k : ByteArray) (hs : Srt xs) (h : pos xs k < xs.length) : has xs k = decide (kc (xs[pos xs k]).1 k = 0) := by
  by_cases hh : has xs k = true
  · rw [hh]
    obtain ⟨_, e⟩ := (has_pos xs k hs).1 hh
    rw [e, kc_self]
    rfl
  · rw [Bool.eq_false_iff.2 hh]
    symm
    apply decide_eq_false
    intro e
    exact hh ((has_pos xs k hs).2 ⟨h, kc_eq e⟩)
theorem has_end (xs : List (ByteArray × α)) (k : ByteArray) (hs : Srt xs) (h : ¬ pos xs k < xs.length) : has xs k = false := by
  rw [Bool.eq_false_iff]
  intro hh
  exact h ((has_pos xs k hs).1 hh).1

/-- A key gets a value. -/
def put (xs : List (ByteArray × α)) (k : ByteArray) (v : α) : List (ByteArray × α) :=
  xs.take (pos xs k) ++ (k, v) :: xs.drop (pos xs k + if has xs k then 1 else 0)
/-- A key goes. -/
def del (xs : List (ByteArray × α)) (k : ByteArray) : List (ByteArray × α) :=
  if has xs k then xs.take (pos xs k) ++ xs.drop (pos xs k + 1) else xs
theorem drop_ahead (xs : List (ByteArray × α)) (k : ByteArray) (hs : Srt xs) : ∀ y ∈ xs.drop (pos xs k + if has xs k then 1 else 0), kc k y.1 < 0 := by
  intro y hy
  by_cases hh : has xs k = true
  · obtain ⟨hlt, e2⟩ := (has_pos xs k hs).1 hh
    rw [hh, if_pos rfl] at hy
    obtain ⟨t, ht, rfl⟩ := List.getElem_of_mem hy
    rw [List.length_drop] at ht
    rw [List.getElem_drop]
    have h3 : kc (xs[pos xs k]).1 (xs[pos xs k + 1 + t]'(by omega)).1 < 0 := List.pairwise_iff_getElem.1 hs _ _ hlt (by omega) (by omega)
    rw [e2] at h3
    exact h3
  · rw [if_neg hh, Nat.add_zero] at hy
    obtain ⟨t, ht, rfl⟩ := List.getElem_of_mem hy
    rw [List.length_drop] at ht
    rw [List.getElem_drop]
    have h1 : ¬ kc (xs[pos xs k + t]'(by omega)).1 k < 0 := fun h => by
      have := (pos_ahead xs k hs (pos xs k + t) (by omega)).2 h
      omega
    have h2 : kc (xs[pos xs k + t]'(by omega)).1 k ≠ 0 := fun h0 => by
      have e := kc_eq h0
      exact hh (by unfold has; rw [List.any_eq_true]; exact ⟨_, List.getElem_mem (n := pos xs k + t) (by omega), by simpa using e⟩)
    rw [kc_neg]
    omega
theorem take_below (xs : List (ByteArray × α)) (k : ByteArray) (hs : Srt xs) : ∀ y ∈ xs.take (pos xs k), kc y.1 k < 0 := by
  intro y hy
  obtain ⟨t, ht, rfl⟩ := List.getElem_of_mem hy
  rw [List.length_take] at ht
  rw [List.getElem_take]
  exact (pos_ahead xs k hs t (by omega)).1 (by omega)
theorem put_srt (xs : List (ByteArray × α)) (k : ByteArray) (v : α) (hs : Srt xs) : Srt (put xs k v) := by
  unfold put Srt
  rw [List.pairwise_append]
  refine ⟨hs.take, List.pairwise_cons.2 ⟨fun y hy => drop_ahead xs k hs y hy, hs.drop⟩, ?_⟩
  intro a ha b hb
  have h1 := take_below xs k hs a ha
  rcases List.mem_cons.1 hb with rfl | hb
  · exact h1
  · exact kc_trans h1 (drop_ahead xs k hs b hb)
theorem del_srt (xs : List (ByteArray × α)) (k : ByteArray) (hs : Srt xs) : Srt (del xs k) := by
  unfold del
  split
  · have e : (xs.take (pos xs k) ++ xs.drop (pos xs k + 1)).Sublist xs := by
      conv => rhs; rw [← List.take_append_drop (pos xs k) xs]
      refine List.Sublist.append (List.Sublist.refl _) ?_
      rw [← List.drop_drop]
      exact List.drop_sublist _ _
    exact List.Pairwise.sublist e hs
  · exact hs
theorem put_length (xs : List (ByteArray × α)) (k : ByteArray) (v : α) (hs : Srt xs) : (put xs k v).length = xs.length + if has xs k then 0 else 1 := by
  have hl := pos_le xs k
  unfold put
  by_cases hh : has xs k = true
  · obtain ⟨hlt, _⟩ := (has_pos xs k hs).1 hh
    simp [hh]; omega
  · simp [hh]; omega
theorem put_le (xs : List (ByteArray × α)) (k : ByteArray) (v : α) (hs : Srt xs) : (put xs k v).length ≤ xs.length + 1 := by
  rw [put_length xs k v hs]; split <;> omega
theorem del_le (xs : List (ByteArray × α)) (k : ByteArray) : (del xs k).length ≤ xs.length := by
  unfold del; split
  · simp; omega
  · omega
end
end Go.Proofs.Ytcaeechlpadboaa
