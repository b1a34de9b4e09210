/-
  MemValues: the plain law.
-/
import Derived.Test.YtcaeechlpadboaaM7P
import Derived.Test.YtcaeechlpadboaaLaw1
namespace Go.Proofs.Ytcaeechlpadboaa
open Go.RowKit Go.Maps Go.Shelf

theorem mem_del {α : Type} (xs : List (ByteArray × α)) (k : ByteArray) (hs : Srt xs) (y : ByteArray × α) : y ∈ del xs k ↔ y ∈ xs ∧ y.1 ≠ k := by
  by_cases hh : has xs k = true
  · obtain ⟨hp, hx⟩ := (has_pos xs k hs).1 hh
    have hd : del xs k = xs.take (pos xs k) ++ xs.drop (pos xs k + 1) := by unfold del; rw [hh, if_pos rfl]
    have hsplit : xs = xs.take (pos xs k) ++ xs[pos xs k] :: xs.drop (pos xs k + 1) := by rw [List.getElem_cons_drop, List.take_append_drop]
    have hdrop := drop_ahead xs k hs
    rw [hh, if_pos rfl] at hdrop
    have htake := take_below xs k hs
    rw [hd]
    constructor
    · intro h
      rcases List.mem_append.1 h with h | h
      · refine ⟨List.mem_of_mem_take h, fun e => ?_⟩
        have := htake y h
        rw [e] at this
        exact kc_irrefl this
      · refine ⟨List.mem_of_mem_drop h, fun e => ?_⟩
        have := hdrop y h
        rw [e] at this
        exact kc_irrefl this
    · rintro ⟨h, hne⟩
      rw [hsplit] at h
      rcases List.mem_append.1 h with h | h
      · exact List.mem_append_left _ h
      · rcases List.mem_cons.1 h with rfl | h
        · exact absurd hx hne
        · exact List.mem_append_right _ h
  · have hd : del xs k = xs := by unfold del; rw [Bool.eq_false_iff.2 hh]; rfl
    rw [hd]
    refine ⟨fun h => ⟨h, fun e => hh (List.any_eq_true.2 ⟨y, h, decide_eq_true e⟩)⟩, fun h => h.1⟩
theorem has_iff_mem {α : Type} (xs : List (ByteArray × α)) (k : ByteArray) : has xs k = true ↔ ∃ y ∈ xs, y.1 = k := by
  constructor
  · intro h
    obtain ⟨y, hy, e⟩ := List.any_eq_true.1 h
    exact ⟨y, hy, of_decide_eq_true e⟩
  · rintro ⟨y, hy, e⟩
    exact List.any_eq_true.2 ⟨y, hy, decide_eq_true e⟩

/-- Each text with its last place and the bytes. -/
def tabV (l : List ByteArray) (sl : Option Addr × Nat × Nat) : Nat → List MP.Ent
  | 0 => []
  | k + 1 => put (tabV l sl k) (l[k]?.getD k0) ((k : Int), sl)
theorem tabV_ok (l : List ByteArray) (sl : Option Addr × Nat × Nat) : ∀ k, MP.Ok (tabV l sl k) k
  | 0 => MP.Ok.nil
  | k + 1 => (tabV_ok l sl k).put _ _
theorem tabV_told (l : List ByteArray) (sl : Option Addr × Nat × Nat) : ∀ k, k ≤ l.length → ∀ y ∈ tabV l sl k, ∃ p : Nat, ∃ h : p < l.length, y = (l[p], ((p : Int), sl))
  | 0, _ => fun y hy => by cases hy
  | k + 1, hk => fun y hy => by
    have hkl : k < l.length := by omega
    rw [tabV, List.getElem?_eq_getElem hkl] at hy
    rcases (mem_put _ _ _ (tabV_ok l sl k).hs y).1 hy with rfl | ⟨h, _⟩
    · exact ⟨k, hkl, rfl⟩
    · exact tabV_told l sl k (by omega) y h
theorem tabV_has (l : List ByteArray) (sl : Option Addr × Nat × Nat) : ∀ k, k ≤ l.length → ∀ i (hi : i < l.length), i < k → has (tabV l sl k) l[i] = true
  | 0, _ => fun i hi h => by omega
  | k + 1, hk => fun i hi h => by
    have hkl : k < l.length := by omega
    rw [tabV, List.getElem?_eq_getElem hkl]
    rw [has_iff_mem]
    show ∃ y ∈ put (tabV l sl k) l[k] ((k : Int), sl), y.1 = l[i]
    by_cases he : l[i] = l[k]
    · exact ⟨(l[k], ((k : Int), sl)), (mem_put _ _ _ (tabV_ok l sl k).hs _).2 (.inl rfl), he.symm⟩
    · have hik : i < k := by
        rcases Nat.lt_or_ge i k with h2 | h2
        · exact h2
        · obtain rfl : i = k := by omega
          exact absurd rfl he
      obtain ⟨y, hy, e⟩ := (has_iff_mem _ _).1 (tabV_has l sl k (by omega) i hi hik)
      exact ⟨y, (mem_put _ _ _ (tabV_ok l sl k).hs _).2 (.inr ⟨hy, by rw [e]; exact he⟩), e⟩
theorem tabV_get (l : List ByteArray) (sl : Option Addr × Nat × Nat) (i : Nat) (hi : i < l.length) : ∃ p : Nat, ∃ h : p < l.length, MP.get (tabV l sl l.length) l[i] = (((p : Int), sl), true) ∧ l[p] = l[i] := by
  have hh := tabV_has l sl l.length (Nat.le_refl _) i hi hi
  obtain ⟨hp, hx⟩ := (has_pos _ _ (tabV_ok l sl l.length).hs).1 hh
  obtain ⟨p, h, e⟩ := tabV_told l sl l.length (Nat.le_refl _) _ (List.getElem_mem hp)
  refine ⟨p, h, ?_, ?_⟩
  · unfold MP.get
    rw [if_pos hh, List.getElem?_eq_getElem hp, e]
    rfl
  · rw [e] at hx
    exact hx
/-- The first so many texts' keys are taken away. -/
def delV (l : List ByteArray) (xs : List MP.Ent) : Nat → List MP.Ent
  | 0 => xs
  | j + 1 => del (delV l xs j) (l[j]?.getD k0)
theorem delV_ok (l : List ByteArray) (xs : List MP.Ent) (n : Nat) (h : MP.Ok xs n) : ∀ j, MP.Ok (delV l xs j) n
  | 0 => h
  | j + 1 => (delV_ok l xs n h j).del _
theorem mem_delV (l : List ByteArray) (xs : List MP.Ent) (n : Nat) (h : MP.Ok xs n) : ∀ j, j ≤ l.length → ∀ y, y ∈ delV l xs j → y ∈ xs ∧ ∀ t (ht : t < l.length), t < j → y.1 ≠ l[t]
  | 0, _ => fun y hy => ⟨hy, fun t _ h => by omega⟩
  | j + 1, hj => fun y hy => by
    have hjl : j < l.length := by omega
    rw [delV, List.getElem?_eq_getElem hjl] at hy
    obtain ⟨h1, h2⟩ := (mem_del _ _ (delV_ok l xs n h j).hs y).1 hy
    obtain ⟨h3, h4⟩ := mem_delV l xs n h j (by omega) y h1
    refine ⟨h3, fun t ht htj => ?_⟩
    rcases Nat.lt_or_ge t j with h5 | h5
    · exact h4 t ht h5
    · obtain rfl : t = j := by omega
      exact h2
theorem delV_end (l : List ByteArray) (sl : Option Addr × Nat × Nat) : delV l (tabV l sl l.length) l.length = [] := by
  refine List.eq_nil_iff_forall_not_mem.2 fun y hy => ?_
  obtain ⟨h1, h2⟩ := mem_delV l _ _ (tabV_ok l sl l.length) l.length (Nat.le_refl _) y hy
  obtain ⟨p, h, rfl⟩ := tabV_told l sl l.length (Nat.le_refl _) y h1
  exact h2 p h h rfl
end Go.Proofs.Ytcaeechlpadboaa
