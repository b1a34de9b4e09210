/-
  The document's list and the table say the same. No program in sight.
-/
import Derived.Test.YtcaeechlpadboaaVals0
import Derived.Test.YtcaeechlpadboaaOther2
namespace Go.Proofs.Ytcaeechlpadboaa
open Go.RowKit Go.Maps Go.Shelf

theorem nodup_len {α : Type} : ∀ (a b : List α), a.Nodup → (∀ y ∈ a, y ∈ b) → a.length ≤ b.length
  | [], _, _, _ => Nat.zero_le _
  | x :: a, b, hn, hs => by
    obtain ⟨b1, b2, rfl⟩ := List.append_of_mem (hs x (by simp))
    obtain ⟨hx, hn⟩ := List.nodup_cons.1 hn
    have := nodup_len a (b1 ++ b2) hn (fun y hy => by
      have h1 := hs y (List.mem_cons_of_mem _ hy)
      rcases List.mem_append.1 h1 with h | h
      · exact List.mem_append_left _ h
      · rcases List.mem_cons.1 h with rfl | h
        · exact absurd hy hx
        · exact List.mem_append_right _ h)
    simp at this ⊢
    omega
theorem srt_nodup {α : Type} (xs : List (ByteArray × α)) (h : Srt xs) : xs.Nodup := List.Pairwise.imp (fun {x y} h e => by rw [e] at h; exact kc_irrefl h) h
/-- The same pairs. -/
structure Rel (ws : List Pr) (xs : List MS.Ent) : Prop where
  once : (ws.map (·.1)).Nodup
  srt : Srt xs
  mem : ∀ y, y ∈ ws ↔ y ∈ xs
theorem Rel.nil : Rel [] [] := ⟨by simp, List.Pairwise.nil, fun _ => Iff.rfl⟩
section
variable {ws : List Pr} {xs : List MS.Ent}
theorem Rel.nodup (h : Rel ws xs) : ws.Nodup := List.Pairwise.of_map (·.1) (fun _ _ h e => h (by rw [e])) h.once
theorem Rel.len (h : Rel ws xs) : ws.length = xs.length := Nat.le_antisymm (nodup_len _ _ h.nodup fun y hy => (h.mem y).1 hy) (nodup_len _ _ (srt_nodup _ h.srt) fun y hy => (h.mem y).2 hy)
theorem Rel.has (h : Rel ws xs) (k : ByteArray) : Proofs.Ytcaeechlpadboaa.has ws k = Proofs.Ytcaeechlpadboaa.has xs k := by
  rw [Bool.eq_iff_iff, has_iff_mem, has_iff_mem]
  exact ⟨fun ⟨y, hy, e⟩ => ⟨y, (h.mem y).1 hy, e⟩, fun ⟨y, hy, e⟩ => ⟨y, (h.mem y).2 hy, e⟩⟩
theorem Rel.set (h : Rel ws xs) (k v : ByteArray) : Rel (refSet ws k v).1 (put xs k v) := ⟨refset_once _ _ _ h.once, put_srt _ _ _ h.srt, fun y => by rw [mem_refset, mem_put _ _ _ h.srt, h.mem]⟩
theorem Rel.set_is (h : Rel ws xs) (k v : ByteArray) : (refSet ws k v).2 = !Proofs.Ytcaeechlpadboaa.has xs k := by
  rw [← h.has k]
  unfold refSet Proofs.Ytcaeechlpadboaa.has
  split <;> simp [*]
def refGet (ws : List Pr) (k : ByteArray) : ByteArray × Bool := match ws.find? (fun x => decide (x.1 = k)) with
  | some x => (x.2, true)
  | none => (k0, false)
theorem getS_mem (h : Srt xs) (y : MS.Ent) (hy : y ∈ xs) : MS.get xs y.1 = (y.2, true) := by
  obtain ⟨i, hi, rfl⟩ := List.getElem_of_mem hy
  obtain ⟨hp, hh⟩ := pos_atH xs h i hi
  unfold MS.get
  rw [if_pos hh, hp, List.getElem?_eq_getElem hi]
  rfl
theorem Rel.get (h : Rel ws xs) (k : ByteArray) : refGet ws k = MS.get xs k := by
  unfold refGet
  cases hf : ws.find? (fun x => decide (x.1 = k)) with
  | some x =>
    have hx := List.mem_of_find?_eq_some hf
    have hk : x.1 = k := of_decide_eq_true (List.find?_some (p := fun x : Pr => decide (x.1 = k)) hf)
    rw [← hk, getS_mem h.srt x ((h.mem x).1 hx)]
  | none =>
    have hh : Proofs.Ytcaeechlpadboaa.has xs k = false := by
      rw [← h.has k, Bool.eq_false_iff]
      intro hc
      obtain ⟨y, hy, e⟩ := (has_iff_mem _ _).1 hc
      have := List.find?_eq_none.1 hf y hy
      exact this (decide_eq_true e)
    unfold MS.get
    rw [hh]
    rfl
def refDel (ws : List Pr) (k : ByteArray) : List Pr := ws.filter fun x => !decide (x.1 = k)
theorem Rel.del (h : Rel ws xs) (k : ByteArray) : Rel (refDel ws k) (Proofs.Ytcaeechlpadboaa.del xs k) := by
  refine ⟨h.once.sublist (List.Sublist.map _ List.filter_sublist), del_srt _ _ h.srt, fun y => ?_⟩
  unfold refDel
  rw [List.mem_filter, mem_del _ _ h.srt, h.mem]
  simp
theorem Rel.del_is (h : Rel ws xs) (k : ByteArray) : decide ((refDel ws k).length < ws.length) = Proofs.Ytcaeechlpadboaa.has xs k := by
  rw [← h.has k, Bool.eq_iff_iff, decide_eq_true_iff, has_iff_mem]
  unfold refDel
  rw [List.length_filter_lt_length_iff_exists]
  simp
theorem le_iffH {α : Type} (xs : List (ByteArray × α)) (hs : Srt xs) (key : ByteArray) (i : Nat) (hi : i < xs.length) : kc (xs[i]).1 key ≤ 0 ↔ i < pos xs key + (if Proofs.Ytcaeechlpadboaa.has xs key then 1 else 0) := by
  by_cases hh : Proofs.Ytcaeechlpadboaa.has xs key = true
  · obtain ⟨hp, hx⟩ := (has_pos xs key hs).1 hh
    rw [hh, if_pos rfl]
    constructor
    · intro h
      rcases Int.lt_or_eq_of_le h with h2 | h2
      · have := (pos_ahead xs key hs i hi).2 h2; omega
      · have := key_oneH xs hs i _ hi hp ((kc_eq h2).trans hx.symm); omega
    · intro h
      rcases Nat.lt_or_ge i (pos xs key) with h2 | h2
      · exact Int.le_of_lt ((pos_ahead xs key hs i hi).1 h2)
      · obtain rfl : i = pos xs key := by omega
        rw [hx, kc_self]; exact Int.le_refl _
  · rw [if_neg hh]
    constructor
    · intro h
      rcases Int.lt_or_eq_of_le h with h2 | h2
      · have := (pos_ahead xs key hs i hi).2 h2; omega
      · exact absurd ((has_iff_mem _ _).2 ⟨xs[i], List.getElem_mem hi, kc_eq h2⟩) hh
    · intro h
      exact Int.le_of_lt ((pos_ahead xs key hs i hi).1 (by omega))
/-- Which of the first so many is the greatest that is not above a key. -/
def bst (ws : List Pr) (key : ByteArray) : Nat → Option Nat
  | 0 => none
  | k + 1 => if kc key (ws[k]?.getD (k0, k0)).1 < 0 then bst ws key k else match bst ws key k with
    | none => some k
    | some b => if kc (ws[b]?.getD (k0, k0)).1 (ws[k]?.getD (k0, k0)).1 < 0 then some k else some b
theorem bst_is (ws : List Pr) (key : ByteArray) : ∀ k, k ≤ ws.length → (bst ws key k = none → ∀ t (ht : t < ws.length), t < k → kc key (ws[t]).1 < 0) ∧
    ∀ b, bst ws key k = some b → b < k ∧ ∃ hb : b < ws.length, ¬ kc key (ws[b]).1 < 0 ∧ ∀ t (ht : t < ws.length), t < k → ¬ kc key (ws[t]).1 < 0 → ¬ kc (ws[b]).1 (ws[t]).1 < 0
  | 0, _ => ⟨fun _ t _ h => by omega, fun b h => by cases h⟩
  | k + 1, hk => by
    have hkl : k < ws.length := by omega
    obtain ⟨h1, h2⟩ := bst_is ws key k (by omega)
    rw [bst, List.getElem?_eq_getElem hkl]
    show ((if kc key (ws[k]).1 < 0 then bst ws key k else _) = none → _) ∧ ∀ b, (if kc key (ws[k]).1 < 0 then bst ws key k else _) = some b → _
    by_cases hlt : kc key (ws[k]).1 < 0
    · rw [if_pos hlt]
      refine ⟨fun h t ht htk => ?_, fun b hb => ?_⟩
      · rcases Nat.lt_or_ge t k with h3 | h3
        · exact h1 h t ht h3
        · obtain rfl : t = k := by omega
          exact hlt
      · obtain ⟨a1, a2, a3, a4⟩ := h2 b hb
        refine ⟨by omega, a2, a3, fun t ht htk h3 => ?_⟩
        rcases Nat.lt_or_ge t k with h5 | h5
        · exact a4 t ht h5 h3
        · obtain rfl : t = k := by omega
          exact absurd hlt h3
    · rw [if_neg hlt]
      cases hb : bst ws key k with
      | none =>
        refine ⟨fun h => (by cases h), fun b h => ?_⟩
        obtain rfl : k = b := Option.some.inj h
        refine ⟨by omega, hkl, hlt, fun t ht htk h3 => ?_⟩
        rcases Nat.lt_or_ge t k with h5 | h5
        · exact absurd (h1 hb t ht h5) h3
        · obtain rfl : t = k := by omega
          exact fun e => kc_irrefl e
      | some c =>
        obtain ⟨a1, a2, a3, a4⟩ := h2 c hb
        simp only [List.getElem?_eq_getElem a2, Option.getD_some]
        by_cases hc : kc (ws[c]).1 (ws[k]).1 < 0
        · rw [if_pos hc]
          refine ⟨fun h => (by cases h), fun b h => ?_⟩
          obtain rfl : k = b := Option.some.inj h
          refine ⟨by omega, hkl, hlt, fun t ht htk h3 h4 => ?_⟩
          rcases Nat.lt_or_ge t k with h5 | h5
          · exact a4 t ht h5 h3 (kc_trans hc h4)
          · obtain rfl : t = k := by omega
            exact kc_irrefl h4
        · rw [if_neg hc]
          refine ⟨fun h => (by cases h), fun b h => ?_⟩
          obtain rfl : c = b := Option.some.inj h
          refine ⟨by omega, a2, a3, fun t ht htk h3 => ?_⟩
          rcases Nat.lt_or_ge t k with h5 | h5
          · exact a4 t ht h5 h3
          · obtain rfl : t = k := by omega
            exact hc
def refFloor (ws : List Pr) (key : ByteArray) : Pr × Bool := match bst ws key ws.length with
  | none => ((k0, k0), false)
  | some b => (ws[b]?.getD (k0, k0), true)
theorem Rel.floor (h : Rel ws xs) (key : ByteArray) : MS.floor xs key = ((refFloor ws key).1.1, (refFloor ws key).1.2, (refFloor ws key).2) := by
  obtain ⟨h1, h2⟩ := bst_is ws key ws.length (Nat.le_refl _)
  unfold refFloor
  cases hb : bst ws key ws.length with
  | none =>
    have hall : ∀ y ∈ xs, kc key y.1 < 0 := fun y hy => by
      obtain ⟨t, ht, rfl⟩ := List.getElem_of_mem ((h.mem y).2 hy)
      exact h1 hb t ht ht
    have hp : pos xs key = 0 := pos_zero _ _ (fun y hy h3 => kc_irrefl (kc_trans h3 (hall y hy)))
    have hh : Proofs.Ytcaeechlpadboaa.has xs key = false := by
      rw [Bool.eq_false_iff]
      intro hc
      obtain ⟨y, hy, e⟩ := (has_iff_mem _ _).1 hc
      have := hall y hy
      rw [e] at this
      exact kc_irrefl this
    unfold MS.floor
    rw [hp, hh]
    rfl
  | some b =>
    obtain ⟨a1, a2, a3, a4⟩ := h2 b hb
    obtain ⟨i, hi, hie⟩ := List.getElem_of_mem ((h.mem _).1 (List.getElem_mem a2))
    have hle : kc (xs[i]).1 key ≤ 0 := by rw [hie]; have := kc_neg key (ws[b]).1; omega
    have hiq := (le_iffH xs h.srt key i hi).1 hle
    obtain ⟨q, hq⟩ : ∃ q, q + 1 = pos xs key + (if Proofs.Ytcaeechlpadboaa.has xs key then 1 else 0) := ⟨_, Nat.sub_add_cancel (by omega)⟩
    have hql : q < xs.length := by
      by_cases hh : Proofs.Ytcaeechlpadboaa.has xs key = true
      · obtain ⟨hp, _⟩ := (has_pos xs key h.srt).1 hh
        rw [hh, if_pos rfl] at hq
        omega
      · have := pos_le xs key
        rw [if_neg hh] at hq; omega
    have hq2 := (le_iffH xs h.srt key q hql).2 (by omega)
    have hqi : i = q := by
      rcases Nat.lt_or_ge i q with h3 | h3
      · exfalso
        obtain ⟨t, ht, hte⟩ := List.getElem_of_mem ((h.mem _).2 (List.getElem_mem hql))
        have h4 := a4 t ht ht (by rw [hte]; have := kc_neg (xs[q]).1 key; omega)
        rw [hte, ← hie] at h4
        exact h4 (List.pairwise_iff_getElem.1 h.srt i q hi hql h3)
      · omega
    subst hqi
    unfold MS.floor
    rw [if_neg (by omega), show pos xs key + (if Proofs.Ytcaeechlpadboaa.has xs key then 1 else 0) - 1 = i by omega, List.getElem?_eq_getElem hql]
    simp only [List.getElem?_eq_getElem a2, Option.getD_some, Option.map_some, hie]
theorem from_gen (h : (ws.map (·.1)).Nodup) (key : ByteArray) : ∀ n, n ≤ ws.length → Srt (refFrom (ws.take n) key) ∧ ∀ y, y ∈ refFrom (ws.take n) key ↔ y ∈ ws.take n ∧ ¬ kc y.1 key < 0
  | 0, _ => ⟨List.Pairwise.nil, fun y => by simp [refFrom]⟩
  | n + 1, hn => by
    obtain ⟨i1, i2⟩ := from_gen h key n (by omega)
    have hlt : n < ws.length := by omega
    have hne : ∀ y ∈ refFrom (ws.take n) key, y.1 ≠ (ws[n]).1 := fun y hy he => by
      obtain ⟨j, hj, rfl⟩ := List.getElem_of_mem ((i2 y).1 hy).1
      have hj2 : j < n := by have := List.length_take_le n ws; omega
      rw [List.getElem_take] at he
      have := List.pairwise_iff_getElem.1 h j n (by simp; omega) (by simpa using hlt) hj2
      exact this (by simpa using he)
    rw [List.take_succ_eq_append_getElem hlt, refFrom_snoc]
    by_cases hk : kc (ws[n]).1 key < 0
    · rw [if_pos hk]
      refine ⟨i1, fun y => ?_⟩
      rw [i2, List.mem_append, List.mem_singleton]
      constructor
      · rintro ⟨h1, h2⟩
        exact ⟨.inl h1, h2⟩
      · rintro ⟨h1 | rfl, h2⟩
        · exact ⟨h1, h2⟩
        · exact absurd hk h2
    · rw [if_neg hk, ins_put _ _ i1 hne]
      refine ⟨put_srt _ _ _ i1, fun y => ?_⟩
      rw [mem_put _ _ _ i1, List.mem_append, List.mem_singleton, i2]
      constructor
      · rintro (h1 | ⟨⟨h1, h2⟩, _⟩)
        · exact ⟨.inr h1, by rw [h1]; exact hk⟩
        · exact ⟨.inl h1, h2⟩
      · rintro ⟨h1 | h1, h2⟩
        · exact .inr ⟨⟨h1, h2⟩, hne y ((i2 y).2 ⟨h1, h2⟩)⟩
        · exact .inl h1
theorem Rel.from (h : Rel ws xs) (key : ByteArray) : refFrom ws key = xs.drop (pos xs key) := by
  obtain ⟨i1, i2⟩ := from_gen h.once key _ (Nat.le_refl _)
  rw [List.take_length] at i1 i2
  refine srt_ext _ _ i1 (List.Pairwise.drop h.srt) fun y => ?_
  rw [i2, h.mem]
  constructor
  · rintro ⟨h1, h2⟩
    obtain ⟨i, hi, rfl⟩ := List.getElem_of_mem h1
    have hp : pos xs key ≤ i := Nat.not_lt.1 fun h3 => h2 ((pos_ahead xs key h.srt i hi).1 h3)
    exact List.mem_iff_getElem.2 ⟨i - pos xs key, by rw [List.length_drop]; omega, by rw [List.getElem_drop]; congr 1; omega⟩
  · intro h1
    obtain ⟨i, hi, rfl⟩ := List.getElem_of_mem h1
    rw [List.length_drop] at hi
    rw [List.getElem_drop]
    refine ⟨List.getElem_mem _, fun h3 => ?_⟩
    have := (pos_ahead xs key h.srt _ (by omega)).2 h3
    omega
end
end Go.Proofs.Ytcaeechlpadboaa
