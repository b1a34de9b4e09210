/-
  Floor and what is gone over: the plain law. Orders of strings as the machine reckons them.
-/
import Derived.Test.YtcaeechlpadboaaTbl
namespace Go.Proofs.Ytcaeechlpadboaa
open Go.RowKit Go.Maps Go.Shelf
open MI

theorem bl_lt : ∀ a b : List UInt8, Op.bytesLess a b = decide (Lib.compareBytes a b < 0)
  | [], [] => rfl
  | [], _ :: _ => rfl
  | _ :: _, [] => rfl
  | x :: a, y :: b => by
    unfold Op.bytesLess Lib.compareBytes
    by_cases h1 : x < y
    · simp [h1]
    · by_cases h2 : y < x
      · have h3 : ¬ x = y := fun e => by rw [e] at h2; exact UInt8.lt_irrefl _ h2
        simp [h1, h2, h3]
      · have h3 : x = y := UInt8.le_antisymm (UInt8.not_lt.1 h2) (UInt8.not_lt.1 h1)
        rw [bl_lt a b]
        simp [h3]
theorem str_lt (a b : ByteArray) : Op.bytesLess a.toList b.toList = decide (kc a b < 0) := by
  rw [Go.ByteArray.toList_eq, Go.ByteArray.toList_eq, bl_lt]
  rfl

/-- A key that is there has its value. -/
theorem pos_at (xs : List MI.Ent) (hs : Srt xs) (i : Nat) (hi : i < xs.length) : pos xs (xs[i]).1 = i ∧ has xs (xs[i]).1 = true := by
  have hp : pos xs (xs[i]).1 = i := by
    refine pos_is xs _ hs i (by omega) (fun t ht hti => List.pairwise_iff_getElem.1 hs _ _ ht hi hti) (fun t ht hti h => ?_)
    rcases Nat.eq_or_lt_of_le hti with rfl | h2
    · exact kc_irrefl h
    · exact kc_irrefl (kc_trans h (List.pairwise_iff_getElem.1 hs _ _ hi ht h2))
  refine ⟨hp, (has_pos xs _ hs).2 ⟨by omega, ?_⟩⟩
  simp only [hp]
theorem get_at (xs : List MI.Ent) (hs : Srt xs) (i : Nat) (hi : i < xs.length) : MI.get xs (xs[i]).1 = ((xs[i]).2, true) := by
  obtain ⟨hp, hh⟩ := pos_at xs hs i hi
  unfold MI.get
  rw [if_pos hh, hp, List.getElem?_eq_getElem hi]
  rfl
/-- The last key that is gone over up to there. -/
def wantOf (key : ByteArray) (pre : List MI.Ent) : ByteArray × Bool := pre.foldl (fun a x => if kc x.1 key ≤ 0 then (x.1, true) else a) (k0, false)
theorem wantOf_snoc (key : ByteArray) (pre : List MI.Ent) (x : MI.Ent) : wantOf key (pre ++ [x]) = if kc x.1 key ≤ 0 then (x.1, true) else wantOf key pre := by simp [wantOf]
theorem le_iff (xs : List MI.Ent) (hs : Srt xs) (key : ByteArray) (i : Nat) (hi : i < xs.length) : kc (xs[i]).1 key ≤ 0 ↔ i < pos xs key + (if has xs key then 1 else 0) := by
  constructor
  · intro h
    rcases Int.lt_or_eq_of_le h with h | h
    · have := (pos_ahead xs key hs i hi).2 h
      omega
    · have e := kc_eq h
      obtain ⟨hp, hh⟩ := pos_at xs hs i hi
      rw [e] at hp hh
      rw [hh, if_pos rfl]
      omega
  · intro h
    by_cases h2 : i < pos xs key
    · exact Int.le_of_lt ((pos_ahead xs key hs i hi).1 h2)
    · by_cases hh : has xs key = true
      · rw [hh, if_pos rfl] at h
        obtain ⟨hlt, e⟩ := (has_pos xs key hs).1 hh
        have : i = pos xs key := by omega
        subst this
        rw [e, kc_self]
        exact Int.le_refl _
      · rw [if_neg hh] at h
        omega
theorem want_take (xs : List MI.Ent) (hs : Srt xs) (key : ByteArray) : ∀ m, m ≤ xs.length → wantOf key (xs.take m) = if min m (pos xs key + (if has xs key then 1 else 0)) = 0 then (k0, false) else ((xs[min m (pos xs key + (if has xs key then 1 else 0)) - 1]?.map (·.1)).getD k0, true)
  | 0, _ => by simp [wantOf]
  | m + 1, hm => by
    have ih := want_take xs hs key m (by omega)
    have hml : m < xs.length := by omega
    rw [List.take_succ_eq_append_getElem hml, wantOf_snoc]
    have hle := le_iff xs hs key m hml
    generalize pos xs key + (if has xs key then 1 else 0) = q at *
    by_cases h : m < q
    · rw [if_pos (hle.2 h), show min (m + 1) q = m + 1 by omega, if_neg (by omega), show m + 1 - 1 = m by omega, List.getElem?_eq_getElem hml]
      rfl
    · rw [if_neg (fun h2 => h (hle.1 h2)), ih, show min (m + 1) q = min m q by omega]
theorem want_floor (xs : List MI.Ent) (hs : Srt xs) (key : ByteArray) : (MI.floor xs key).2.2 = (wantOf key xs).2 ∧ (MI.floor xs key).1 = (wantOf key xs).1 := by
  have h := want_take xs hs key xs.length (Nat.le_refl _)
  rw [List.take_length] at h
  have hq : pos xs key + (if has xs key then 1 else 0) ≤ xs.length := by
    by_cases hh : has xs key = true
    · obtain ⟨hlt, _⟩ := (has_pos xs key hs).1 hh
      rw [hh, if_pos rfl]; omega
    · rw [if_neg hh]; exact pos_le xs key
  rw [show min xs.length (pos xs key + (if has xs key then 1 else 0)) = pos xs key + (if has xs key then 1 else 0) by omega] at h
  unfold MI.floor
  rw [h]
  by_cases hz : pos xs key + (if has xs key then 1 else 0) = 0
  · rw [if_pos hz, if_pos hz]; exact ⟨rfl, rfl⟩
  · rw [if_neg hz, if_neg hz]; exact ⟨rfl, rfl⟩
/-- Floor's key has Floor's value; of a key that is there itself. -/
theorem floor_get (xs : List MI.Ent) (hs : Srt xs) (key : ByteArray) : ((MI.floor xs key).2.2 = true → (MI.get xs (MI.floor xs key).1).1 = (MI.floor xs key).2.1) ∧
    ((MI.get xs key).2 = true → (MI.floor xs key).2.2 = true ∧ (MI.floor xs key).1 = key ∧ (MI.get xs key).1 = (MI.floor xs key).2.1) := by
  by_cases hz : pos xs key + (if has xs key then 1 else 0) = 0
  · have hf : MI.floor xs key = (⟨#[]⟩, 0, false) := by unfold MI.floor; rw [if_pos hz]
    have hh : has xs key = false := by
      cases hb : has xs key with
      | true => rw [hb] at hz; simp at hz
      | false => rfl
    rw [hf]
    refine ⟨fun h => (by cases h), fun h => ?_⟩
    unfold MI.get at h
    rw [hh] at h
    cases h
  · obtain ⟨q, hq⟩ : ∃ q, q + 1 = pos xs key + (if has xs key then 1 else 0) := ⟨_, Nat.sub_add_cancel (by omega)⟩
    have hql : q < xs.length := by
      by_cases hh : has xs key = true
      · obtain ⟨hp, _⟩ := (has_pos xs key hs).1 hh
        rw [hh, if_pos rfl] at hq
        omega
      · have := pos_le xs key
        rw [if_neg hh] at hq; omega
    have hf : MI.floor xs key = ((xs[q]).1, (xs[q]).2, true) := by
      unfold MI.floor
      rw [if_neg hz, show pos xs key + (if has xs key then 1 else 0) - 1 = q by omega, List.getElem?_eq_getElem hql]; rfl
    rw [hf]
    refine ⟨fun _ => by rw [get_at xs hs q hql], fun h => ?_⟩
    have hh : has xs key = true := by
      cases hb : has xs key with
      | true => rfl
      | false => unfold MI.get at h; rw [hb] at h; cases h
    obtain ⟨hp, e⟩ := (has_pos xs key hs).1 hh
    rw [hh, if_pos rfl] at hq
    have hpq : pos xs key = q := by omega
    simp only [hpq] at e
    refine ⟨rfl, e, ?_⟩
    rw [← e, get_at xs hs q hql]
end Go.Proofs.Ytcaeechlpadboaa
