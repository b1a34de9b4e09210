/-
  Two rising lists of the same pairs are one: the document's answer is the table.
-/
import Derived.Test.YtcaeechlpadboaaRef2
namespace Go.Proofs.Ytcaeechlpadboaa
open Go.RowKit Go.Maps Go.Shelf

theorem kc_nil (a : ByteArray) : ¬ kc a ⟨#[]⟩ < 0 := by
  intro h
  obtain ⟨⟨l⟩⟩ := a
  unfold kc at h
  cases l <;> simp [Lib.compareBytes] at h
theorem srt_ext {α : Type} : ∀ (a b : List (ByteArray × α)), Srt a → Srt b → (∀ y, y ∈ a ↔ y ∈ b) → a = b
  | [], [], _, _, _ => rfl
  | [], y :: b, _, _, h => by have := (h y).2 (by simp); cases this
  | x :: a, [], _, _, h => by have := (h x).1 (by simp); cases this
  | x :: a, y :: b, ha, hb, h => by
    have ha' := List.pairwise_cons.1 ha
    have hb' := List.pairwise_cons.1 hb
    have e : x = y := by
      rcases List.mem_cons.1 ((h x).1 (by simp)) with h1 | h1
      · exact h1
      · rcases List.mem_cons.1 ((h y).2 (by simp)) with h2 | h2
        · exact h2.symm
        · exact (kc_irrefl (kc_trans (hb'.1 x h1) (ha'.1 y h2))).elim
    subst e
    rw [srt_ext a b ha'.2 hb'.2 (fun z => ?_)]
    have hz := h z
    simp only [List.mem_cons] at hz
    constructor
    · intro h1
      rcases hz.1 (.inr h1) with rfl | h2
      · exact (kc_irrefl (ha'.1 _ h1)).elim
      · exact h2
    · intro h1
      rcases hz.2 (.inr h1) with rfl | h2
      · exact (kc_irrefl (hb'.1 _ h1)).elim
      · exact h2
theorem mem_put {α : Type} (xs : List (ByteArray × α)) (k : ByteArray) (v : α) (hs : Srt xs) (y : ByteArray × α) : y ∈ put xs k v ↔ y = (k, v) ∨ (y ∈ xs ∧ y.1 ≠ k) := by
  have e : put xs k v = xs.take (pos xs k) ++ (k, v) :: xs.drop (pos xs k + if has xs k then 1 else 0) := rfl
  rw [e]
  constructor
  · intro h
    rcases List.mem_append.1 h with h | h
    · refine .inr ⟨List.mem_of_mem_take h, fun he => ?_⟩
      have := take_below xs k hs y h
      rw [he] at this
      exact kc_irrefl this
    · rcases List.mem_cons.1 h with h | h
      · exact .inl h
      · refine .inr ⟨List.mem_of_mem_drop h, fun he => ?_⟩
        have := drop_ahead xs k hs y h
        rw [he] at this
        exact kc_irrefl this
  · rintro (rfl | ⟨h, hne⟩)
    · simp
    · rw [← List.take_append_drop (pos xs k) xs] at h
      rcases List.mem_append.1 h with h | h
      · exact List.mem_append_left _ h
      · refine List.mem_append_right _ (List.mem_cons_of_mem _ ?_)
        by_cases hh : has xs k = true
        · obtain ⟨hp, he⟩ := (has_pos xs k hs).1 hh
          rw [List.drop_eq_getElem_cons hp] at h
          rw [hh, if_pos rfl]
          rcases List.mem_cons.1 h with rfl | h
          · exact absurd he hne
          · exact h
        · rw [if_neg hh]
          exact h
theorem mem_turned (k v : ByteArray) (xs : List Pr) (y : Pr) : y ∈ turned k v xs ↔ (y = (k, v) ∧ ∃ x ∈ xs, x.1 = k) ∨ (y ∈ xs ∧ y.1 ≠ k) := by
  unfold turned
  rw [List.mem_map]
  constructor
  · rintro ⟨x, hx, rfl⟩
    by_cases h : x.1 = k
    · rw [if_pos h, h]; exact .inl ⟨rfl, x, hx, h⟩
    · rw [if_neg h]; exact .inr ⟨hx, h⟩
  · rintro (⟨rfl, x, hx, h⟩ | ⟨hx, h⟩)
    · exact ⟨x, hx, by rw [if_pos h, h]⟩
    · exact ⟨y, hx, by rw [if_neg h]⟩
theorem mem_refset (k v : ByteArray) (xs : List Pr) (y : Pr) : y ∈ (refSet xs k v).1 ↔ y = (k, v) ∨ (y ∈ xs ∧ y.1 ≠ k) := by
  unfold refSet
  by_cases h : (xs.any fun x => decide (x.1 = k)) = true
  · rw [if_pos h]
    obtain ⟨x, hx, he⟩ := List.any_eq_true.1 h
    rw [mem_turned]
    constructor
    · rintro (⟨h1, _⟩ | h1)
      · exact .inl h1
      · exact .inr h1
    · rintro (h1 | h1)
      · exact .inl ⟨h1, x, hx, of_decide_eq_true he⟩
      · exact .inr h1
  · rw [if_neg h]
    rw [List.mem_append, mem_turned, List.mem_singleton]
    constructor
    · rintro ((⟨h1, _⟩ | h1) | h1)
      · exact .inl h1
      · exact .inr h1
      · exact .inl h1
    · rintro (h1 | h1)
      · exact .inr h1
      · exact .inl (.inr h1)
theorem turned_keys (k v : ByteArray) (xs : List Pr) : (turned k v xs).map (·.1) = xs.map (·.1) := by
  unfold turned
  rw [List.map_map]
  refine List.map_congr_left (fun x _ => ?_)
  show (if x.1 = k then (x.1, v) else x).1 = x.1
  split <;> rfl
theorem refset_once (k v : ByteArray) (xs : List Pr) (h : (xs.map (·.1)).Nodup) : ((refSet xs k v).1.map (·.1)).Nodup := by
  unfold refSet
  by_cases ha : (xs.any fun x => decide (x.1 = k)) = true
  · rw [if_pos ha]
    show ((turned k v xs).map (·.1)).Nodup
    rw [turned_keys]; exact h
  · rw [if_neg ha]
    show ((turned k v xs ++ [(k, v)]).map (·.1)).Nodup
    rw [List.map_append, turned_keys, List.nodup_append]
    refine ⟨h, by simp, fun a ha2 b hb he => ?_⟩
    simp at hb
    subst hb he
    apply ha
    obtain ⟨x, hx, e⟩ := List.mem_map.1 ha2
    exact List.any_eq_true.2 ⟨x, hx, decide_eq_true e⟩
theorem refset_len (k v : ByteArray) (xs : List Pr) : (refSet xs k v).1.length ≤ xs.length + 1 := by
  unfold refSet
  split
  · show (turned k v xs).length ≤ _
    unfold turned; simp
  · show (turned k v xs ++ [(k, v)]).length ≤ _
    unfold turned; simp
theorem lead_pos (m : List Pr) (k : ByteArray) (hs : Srt m) : pos m k = lead k m := by
  refine pos_is m k hs _ (lead_le k m) (fun t ht h => lead_lt k m t ht h) (fun t ht h h2 => ?_)
  have hl : lead k m < m.length := by omega
  rcases Nat.eq_or_lt_of_le h with h3 | h3
  · subst h3; exact lead_at k m hl h2
  · exact lead_at k m hl (kc_trans (List.pairwise_iff_getElem.1 hs _ _ hl ht h3) h2)
theorem ins_put (m : List Pr) (x : Pr) (hs : Srt m) (h : ∀ y ∈ m, y.1 ≠ x.1) : ins m x = put m x.1 x.2 := by
  have hh : has m x.1 = false := by
    rw [Bool.eq_false_iff]
    intro h2
    obtain ⟨y, hy, e⟩ := List.any_eq_true.1 h2
    exact h y hy (of_decide_eq_true e)
  unfold ins put
  rw [← lead_pos m x.1 hs, hh]
  simp
theorem from_all (xs : List Pr) (h : (xs.map (·.1)).Nodup) : ∀ n, n ≤ xs.length → Srt (refFrom (xs.take n) ⟨#[]⟩) ∧ ∀ y, y ∈ refFrom (xs.take n) ⟨#[]⟩ ↔ y ∈ xs.take n
  | 0, _ => ⟨List.Pairwise.nil, fun y => by simp [refFrom]⟩
  | n + 1, hn => by
    obtain ⟨i1, i2⟩ := from_all xs h n (by omega)
    have hlt : n < xs.length := by omega
    have hne : ∀ y ∈ refFrom (xs.take n) ⟨#[]⟩, y.1 ≠ (xs[n]).1 := fun y hy he => by
      obtain ⟨j, hj, rfl⟩ := List.getElem_of_mem ((i2 y).1 hy)
      have hj2 : j < n := by have := List.length_take_le n xs; omega
      rw [List.getElem_take] at he
      have := List.pairwise_iff_getElem.1 h j n (by simp; omega) (by simpa using hlt) hj2
      exact this (by simpa using he)
    rw [List.take_succ_eq_append_getElem hlt, refFrom_snoc, if_neg (kc_nil _), ins_put _ _ i1 hne]
    refine ⟨put_srt _ _ _ i1, fun y => ?_⟩
    rw [mem_put _ _ _ i1, List.mem_append, List.mem_singleton, i2]
    constructor
    · rintro (h1 | ⟨h1, _⟩)
      · exact .inr h1
      · exact .inl h1
    · rintro (h1 | h1)
      · exact .inr ⟨h1, hne y ((i2 y).2 h1)⟩
      · exact .inl h1
/-- The document's list and the table, after so many of the pairs. -/
def refOf (l : List Pr) (k : Nat) : List Pr := (l.take k).foldl (fun m x => (refSet m x.1 x.2).1) []
def tabS (l : List Pr) (k : Nat) : List Pr := (l.take k).foldl (fun m x => put m x.1 x.2) []
theorem refOf_succ (l : List Pr) (k : Nat) (hk : k < l.length) : refOf l (k + 1) = (refSet (refOf l k) (l[k]).1 (l[k]).2).1 := by
  unfold refOf
  rw [List.take_succ_eq_append_getElem hk, List.foldl_append]; rfl
theorem tabS_succ (l : List Pr) (k : Nat) (hk : k < l.length) : tabS l (k + 1) = put (tabS l k) (l[k]).1 (l[k]).2 := by
  unfold tabS
  rw [List.take_succ_eq_append_getElem hk, List.foldl_append]; rfl
theorem ref_tab (l : List Pr) : ∀ k, k ≤ l.length → ((refOf l k).map (·.1)).Nodup ∧ Srt (tabS l k) ∧ (refOf l k).length ≤ k ∧ (tabS l k).length ≤ k ∧ (∀ y, y ∈ refOf l k ↔ y ∈ tabS l k) ∧ ∀ y ∈ tabS l k, y ∈ l
  | 0, _ => ⟨by simp [refOf], List.Pairwise.nil, by simp [refOf], by simp [tabS], fun y => by simp [refOf, tabS], fun y h => by simp [tabS] at h⟩
  | k + 1, hk => by
    obtain ⟨h1, h2, h3, h4, h5, h6⟩ := ref_tab l k (by omega)
    have hlt : k < l.length := by omega
    rw [refOf_succ l k hlt, tabS_succ l k hlt]
    refine ⟨refset_once _ _ _ h1, put_srt _ _ _ h2, ?_, ?_, fun y => ?_, fun y hy => ?_⟩
    · have := refset_len (l[k]).1 (l[k]).2 (refOf l k); omega
    · have := put_le (tabS l k) (l[k]).1 (l[k]).2 h2; omega
    · rw [mem_refset, mem_put _ _ _ h2, h5]
    · rcases (mem_put _ _ _ h2 y).1 hy with rfl | ⟨h, _⟩
      · exact List.getElem_mem hlt
      · exact h6 y h
theorem from_tab (l : List Pr) (k : Nat) (hk : k ≤ l.length) : refFrom (refOf l k) ⟨#[]⟩ = tabS l k := by
  obtain ⟨h1, h2, h3, h4, h5, h6⟩ := ref_tab l k hk
  obtain ⟨i1, i2⟩ := from_all (refOf l k) h1 _ (Nat.le_refl _)
  rw [List.take_length] at i1 i2
  exact srt_ext _ _ i1 h2 (fun y => by rw [i2, h5])
end Go.Proofs.Ytcaeechlpadboaa
