/-
  A table of numbers that lies ahead of all else.
-/
import Derived.Test.YtcaeechlpadboaaM6I
namespace Go.Proofs.Ytcaeechlpadboaa.MI
open Go.RowKit Go.Maps Go.Shelf

abbrev rw_ (base : Nat) (v : Value) (xs : List Ent) : Thing := row base 89 2 v xs.length (cells xs)
/-- A table. -/
abbrev tb (base T : Nat) (v : Value) (lent : Bool) (xs : List Ent) : List Thing := [rw_ base v xs, box T (mobj v lent)]
/-- Its keys rise, and are not too many. -/
structure Ok (xs : List Ent) (n : Nat) : Prop where
  hs : Srt xs
  hn : xs.length ≤ n
theorem Ok.nil : Ok [] 0 := ⟨List.Pairwise.nil, Nat.le_refl _⟩
theorem Ok.put {xs : List Ent} {n : Nat} (h : Ok xs n) (key : ByteArray) (val : V) : Ok (put xs key val) (n + 1) := ⟨put_srt xs key val h.hs, by have := put_le xs key val h.hs; have := h.hn; omega⟩
theorem Ok.del {xs : List Ent} {n : Nat} (h : Ok xs n) (key : ByteArray) : Ok (del xs key) n := ⟨del_srt xs key h.hs, by have := del_le xs key; have := h.hn; omega⟩
theorem Ok.mono {xs : List Ent} {n m : Nat} (h : Ok xs n) (hm : n ≤ m) : Ok xs m := ⟨h.hs, by have := h.hn; omega⟩

section
variable {base : Nat} {w0 w : World} {rest : List Thing} {T : Nat} {v : Value} {lent : Bool} {xs : List Ent} {n : Nat}
theorem Ok.at (o : Ok xs n) (hn : n ≤ 99999) : At base (tb base T v lent xs ++ rest) 1 0 T v lent xs := ⟨rfl, rfl, o.hs, by have := o.hn; omega⟩
theorem new_tb (h : Lie base w0 w rest) : Calls Try.prog 20 #[] w fun e w' => ∃ T v, e = .returned (pt T) ∧ Hid (Lie base w0 w' (tb base T v false [] ++ rest)) :=
  (new_any h).mono fun _ _ ⟨T, he, H⟩ => ⟨T, _, he, H⟩
/-- .. the old row stays. -/
theorem set_keep (key : ByteArray) (val : V) (o : Ok xs n) (hn : n ≤ 99999) (h : Lie base w0 w (tb base T v true xs ++ rest)) :
    Calls Try.prog 21 #[pt T, .string key, vv val] w fun e w' => e = .returned (.bool (!has xs key)) ∧ ∃ v', Hid (Lie base w0 w' (tb base T v' false (put xs key val) ++ (rw_ base v xs :: rest))) := by
  refine (set_any key val (o.at hn) h (by have := o.hn; omega)).mono ?_
  rintro e w' ⟨rfl, v', H⟩
  refine ⟨rfl, v', hide ?_⟩
  exact H.out.perm (.cons _ (.swap _ _ _))
theorem set_tb (key : ByteArray) (val : V) (o : Ok xs n) (hn : n ≤ 99999) (h : Lie base w0 w (tb base T v lent xs ++ rest)) :
    Calls Try.prog 21 #[pt T, .string key, vv val] w fun e w' => e = .returned (.bool (!has xs key)) ∧ ∃ v', Hid (Lie base w0 w' (tb base T v' false (put xs key val) ++ rest)) := by
  cases lent with
  | true =>
    refine (set_keep key val o hn h).mono ?_
    rintro e w' ⟨rfl, v', H⟩
    exact ⟨rfl, v', hide (H.out.erase 2)⟩
  | false =>
    refine (set_any key val (o.at hn) h (by have := o.hn; omega)).mono ?_
    rintro e w' ⟨rfl, v', H⟩
    exact ⟨rfl, v', H⟩
theorem get_tb (key : ByteArray) (o : Ok xs n) (hn : n ≤ 99999) (h : Lie base w0 w (tb base T v lent xs ++ rest)) :
    Calls Try.prog 18 #[pt T, .string key] w (TL (.tuple #[vv (get xs key).1, .bool (get xs key).2]) base w0 (tb base T v lent xs ++ rest)) := get_any key (o.at hn) h
theorem floor_tb (key : ByteArray) (o : Ok xs n) (hn : n ≤ 99999) (h : Lie base w0 w (tb base T v lent xs ++ rest)) :
    Calls Try.prog 23 #[pt T, .string key] w (TL (.tuple #[.string (floor xs key).1, vv (floor xs key).2.1, .bool (floor xs key).2.2]) base w0 (tb base T v lent xs ++ rest)) := floor_any key (o.at hn) h
theorem len_tb (o : Ok xs n) (hn : n ≤ 99999) (h : Lie base w0 w (tb base T v lent xs ++ rest)) :
    Calls Try.prog 19 #[pt T] w (TL (.int .i64 (xs.length : Nat)) base w0 (tb base T v lent xs ++ rest)) := len_any (o.at hn) h
theorem del_keep (key : ByteArray) (o : Ok xs n) (hn : n ≤ 99999) (h : Lie base w0 w (tb base T v false xs ++ rest)) :
    Calls Try.prog 29 #[pt T, .string key] w fun e w' => e = .returned (.bool (has xs key)) ∧ ∃ v', Hid (Lie base w0 w' (tb base T v' false (del xs key) ++ rest)) := by
  refine (delete_any key (o.at hn) h).mono ?_
  rintro e w' ⟨rfl, v', H⟩
  refine ⟨rfl, ?_⟩
  unfold aftDel at H
  by_cases hh : has xs key = true
  · rw [hh, if_pos rfl] at H
    exact ⟨v', H⟩
  · rw [Bool.eq_false_iff.2 hh] at H
    rw [del_no xs key (Bool.eq_false_iff.2 hh)]
    exact ⟨v, H⟩
/-- .. whoever goes over it. -/
theorem del_tb (key : ByteArray) (o : Ok xs n) (hn : n ≤ 99999) (h : Lie base w0 w (tb base T v lent xs ++ rest)) :
    Calls Try.prog 29 #[pt T, .string key] w fun e w' => e = .returned (.bool (has xs key)) ∧ ∃ v' lent', Hid (Lie base w0 w' (tb base T v' lent' (del xs key) ++ rest)) := by
  cases lent with
  | false =>
    refine (del_keep key o hn h).mono ?_
    rintro e w' ⟨rfl, v', H⟩
    exact ⟨rfl, v', false, H⟩
  | true =>
    refine (delete_any key (o.at hn) h).mono ?_
    rintro e w' ⟨rfl, v', H⟩
    refine ⟨rfl, ?_⟩
    unfold aftDel at H
    by_cases hh : has xs key = true
    · rw [hh, if_pos rfl] at H
      exact ⟨v', false, hide (H.out.erase 1)⟩
    · rw [Bool.eq_false_iff.2 hh] at H
      rw [del_no xs key (Bool.eq_false_iff.2 hh)]
      exact ⟨v, true, H⟩
theorem clear_keep (o : Ok xs n) (hn : n ≤ 99999) (h : Lie base w0 w (tb base T v lent xs ++ rest)) :
    Calls Try.prog 38 #[pt T] w fun e w' => e = .returned (.tuple #[]) ∧ ∃ v', Hid (Lie base w0 w' (tb base T v' false [] ++ (rw_ base v xs :: rest))) := by
  refine (clear_any (o.at hn) h).mono ?_
  rintro e w' ⟨rfl, H⟩
  exact ⟨rfl, _, hide (H.out.perm (.cons _ (.swap _ _ _)))⟩
theorem clear_tb (o : Ok xs n) (hn : n ≤ 99999) (h : Lie base w0 w (tb base T v lent xs ++ rest)) :
    Calls Try.prog 38 #[pt T] w fun e w' => e = .returned (.tuple #[]) ∧ ∃ v', Hid (Lie base w0 w' (tb base T v' false [] ++ rest)) := by
  refine (clear_keep o hn h).mono ?_
  rintro e w' ⟨rfl, v', H⟩
  exact ⟨rfl, v', hide (H.out.erase 2)⟩
theorem twin_tb (o : Ok xs n) (hn : n ≤ 99999) (h : Lie base w0 w (tb base T v lent xs ++ rest)) :
    Calls Try.prog 37 #[pt T] w fun e w' => ∃ T' v', e = .returned (pt T') ∧ Hid (Lie base w0 w' (tb base T' v' false xs ++ (tb base T v lent xs ++ rest))) := by
  refine (twin_any (o.at hn) h).mono ?_
  rintro e w' ⟨T', v', rfl, H⟩
  exact ⟨T', v', rfl, H⟩
abbrev lbx (lb : Nat) (sl : Value) : Thing := box lb (.cells #[sl] 90 (0, 0))
theorem from_tb (key : ByteArray) (o : Ok xs n) (hn : n ≤ 99999) (h : Lie base w0 w (tb base T v lent xs ++ rest)) :
    Calls Try.prog 22 #[pt T, .string key] w fun e w' => ∃ lb sl, e = .returned (.func (.func 58) #[] #[pt lb]) ∧ Hid (TailOf v sl xs (pos xs key)) ∧ Hid (Lie base w0 w' (tb base T v true xs ++ (lbx lb sl :: rest))) := by
  refine (from_any key (o.at hn) h).mono ?_
  rintro e w' ⟨lb, sl, rfl, HT, H⟩
  exact ⟨lb, sl, rfl, HT, hide (H.out.perm ((List.Perm.swap _ _ _).trans (.cons _ (.swap _ _ _))))⟩
end
theorem pos_empty {α : Type} (xs : List (ByteArray × α)) : pos xs ⟨#[]⟩ = 0 := by
  apply pos_zero
  intro x _ h
  obtain ⟨⟨⟨l⟩⟩, _⟩ := x
  unfold kc at h
  cases l with
  | nil => simp [Lib.compareBytes] at h
  | cons a l => simp [Lib.compareBytes] at h
end Go.Proofs.Ytcaeechlpadboaa.MI
