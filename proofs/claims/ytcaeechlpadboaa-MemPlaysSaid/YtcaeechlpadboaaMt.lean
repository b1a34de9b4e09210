/-
  Great; a table that may be none.
-/
import Derived.Test.YtcaeechlpadboaaRefS
namespace Go.Proofs.Ytcaeechlpadboaa
open Go.RowKit Go.Maps Go.Shelf
attribute [local go_sem] Oper.semAt_some

/-- An act. -/
structure ActM where
  what : Int
  key : ByteArray
  val : ByteArray
  n : Int
abbrev ac (x : ActM) : List Value := [.int .i64 x.what, .string x.key, .string x.val, .int .i64 x.n]
theorem ac_len (x : ActM) : (ac x).length = 4 := rfl
theorem act_at {w : World} {A : Option Addr} {c : Nat} (xs : List ActM) (h : Rd w 4 (.slice A xs.length c) xs.length (xs.flatMap ac)) (h0 : 0 < xs.length) :
    ∃ b o, A = some ⟨b, o, none⟩ ∧ b < w.heap.size ∧ ∀ i (hi : i < xs.length), w.cell? ⟨b, o + i * 4, none⟩ = some (.int .i64 (xs[i]).what) ∧ w.cell? ⟨b, o + i * 4 + 1, none⟩ = some (.string (xs[i]).key) ∧ w.cell? ⟨b, o + i * 4 + 2, none⟩ = some (.string (xs[i]).val) ∧ w.cell? ⟨b, o + i * 4 + 3, none⟩ = some (.int .i64 (xs[i]).n) := by
  obtain ⟨b, o, hA, hb, hc⟩ := h.cells h0
  refine ⟨b, o, hA, hb, fun i hi => ⟨?_, ?_, ?_, ?_⟩⟩
  · have := hc (i * 4 + 0) (.int .i64 (xs[i]).what) (by rw [flat_at ac_len xs i 0 hi (by omega)]; rfl)
    exact this
  · have := hc (i * 4 + 1) (.string (xs[i]).key) (by rw [flat_at ac_len xs i 1 hi (by omega)]; rfl)
    rw [← Nat.add_assoc] at this
    exact this
  · have := hc (i * 4 + 2) (.string (xs[i]).val) (by rw [flat_at ac_len xs i 2 hi (by omega)]; rfl)
    rw [← Nat.add_assoc] at this
    exact this
  · have := hc (i * 4 + 3) (.int .i64 (xs[i]).n) (by rw [flat_at ac_len xs i 3 hi (by omega)]; rfl)
    rw [← Nat.add_assoc] at this
    exact this

def GreatTo (l : List ActM) (w : World) (e : Ending) (w' : World) : Prop := ∃ g : Bool, e = .returned (.bool g) ∧ (g = false → l.length ≤ 200 ∧ ∀ x ∈ l, x.key.size ≤ 20000 ∧ x.val.size ≤ 20000) ∧ Turn (fun _ => False) w w'
set_option maxRecDepth 100000 in
set_option maxHeartbeats 8000000 in
theorem great_any (v : Value) (l : List ActM) (w : World) (hl : Rd w 4 v l.length (l.flatMap ac)) (hmax : l.length ≤ maxLen) :
    Calls Try.prog 39 #[v] w (GreatTo l w) := by
  obtain ⟨A, c, rfl⟩ := hl.shape
  have HL := hide hl
  obtain ⟨n, hnn⟩ : ∃ n, n = l.length := ⟨_, rfl⟩
  have HN := hide hnn
  rw [← hnn] at hmax ⊢
  unfold maxLen at hmax
  clear hl hnn
  go_enter Try.func39, Try.ntmps39
  go_wp2_with fail
  go_loopw [3, 4] (fun s i wr => ∃ k m : Nat, k ≤ n ∧ k ≤ 201 ∧ m ≤ k * 40002 ∧ i = .int .i64 k ∧ s = .int .i64 m ∧ Hid (∀ t (ht : t < l.length), t < k → min (l[t]).key.size 20001 + min (l[t]).val.size 20001 ≤ m) ∧ Hid (∃ d, wr = w.drewN d)) (fun _ i _ => n - (intOf i).toNat)
  case atStart => exact ⟨0, 0, by omega, by omega, by omega, rfl, rfl, hide (fun t _ h => by omega), hide ⟨0, rfl⟩⟩
  case round =>
    obtain ⟨k, m, hk, hk3, hm, rfl, rfl, HS, HD⟩ := hrel
    by_cases hlt : k < n ∧ k ≤ 200
    · obtain ⟨hlt, h3⟩ := hlt
      have t : Turn (fun _ => False) w wr := by obtain ⟨d, hd⟩ := HD.out; rw [hd]; exact (Turn.refl _ w).drewN _
      obtain ⟨b, o, rfl, hb, hc⟩ := act_at l HL.out (by have := HN.out; omega)
      have hkl : k < l.length := by have := HN.out; omega
      obtain ⟨_, q1, q2, _⟩ := hc k hkl
      have d1 := (t.cell (p := ⟨b, o + k * 4 + 1, none⟩) hb (fun h => h)).trans q1
      have d2 := (t.cell (p := ⟨b, o + k * 4 + 2, none⟩) hb (fun h => h)).trans q2
      obtain ⟨s1, hs1⟩ : ∃ s, s = (l[k]).key := ⟨_, rfl⟩
      obtain ⟨s2, hs2⟩ : ∃ s, s = (l[k]).val := ⟨_, rfl⟩
      have HS2 : Hid (∀ t (ht : t < l.length), t < k + 1 → min (l[t]).key.size 20001 + min (l[t]).val.size 20001 ≤ m + (min s1.size 20001 + min s2.size 20001)) := hide (fun t ht h => by
        rcases Nat.lt_or_ge t k with h2 | h2
        · have := HS.out t ht h2; omega
        · obtain rfl : t = k := by omega
          rw [hs1, hs2]; omega)
      rw [← hs1] at d1
      rw [← hs2] at d2
      clear hc hs1 hs2 q1 q2 t HS
      by_cases z1 : 20001 < s1.size
      · rw [Nat.min_eq_right (show 20001 ≤ s1.size by omega)] at HS2
        by_cases z2 : 20001 < s2.size
        · rw [Nat.min_eq_right (show 20001 ≤ s2.size by omega)] at HS2
          go_wp2_with fail
          go_quiet (fail)
          go_wp2_with fail
          go_roundw
          case rel => exact ⟨k + 1, m + (20001 + 20001), by omega, by omega, by omega, by go_num, by go_num, HS2, hide (by obtain ⟨d, hd⟩ := HD.out; rw [hd]; exact ⟨_, World.drewN_drewN ..⟩)⟩
          case measure => simp [intOf]; omega
        · rw [Nat.min_eq_left (show s2.size ≤ 20001 by omega)] at HS2
          go_wp2_with fail
          go_quiet (fail)
          go_wp2_with fail
          go_roundw
          case rel => exact ⟨k + 1, m + (20001 + s2.size), by omega, by omega, by omega, by go_num, by go_num, HS2, hide (by obtain ⟨d, hd⟩ := HD.out; rw [hd]; exact ⟨_, World.drewN_drewN ..⟩)⟩
          case measure => simp [intOf]; omega
      · rw [Nat.min_eq_left (show s1.size ≤ 20001 by omega)] at HS2
        by_cases z2 : 20001 < s2.size
        · rw [Nat.min_eq_right (show 20001 ≤ s2.size by omega)] at HS2
          go_wp2_with fail
          go_quiet (fail)
          go_wp2_with fail
          go_roundw
          case rel => exact ⟨k + 1, m + (s1.size + 20001), by omega, by omega, by omega, by go_num, by go_num, HS2, hide (by obtain ⟨d, hd⟩ := HD.out; rw [hd]; exact ⟨_, World.drewN_drewN ..⟩)⟩
          case measure => simp [intOf]; omega
        · rw [Nat.min_eq_left (show s2.size ≤ 20001 by omega)] at HS2
          go_wp2_with fail
          go_quiet (fail)
          go_wp2_with fail
          go_roundw
          case rel => exact ⟨k + 1, m + (s1.size + s2.size), by omega, by omega, by omega, by go_num, by go_num, HS2, hide (by obtain ⟨d, hd⟩ := HD.out; rw [hd]; exact ⟨_, World.drewN_drewN ..⟩)⟩
          case measure => simp [intOf]; omega
    · have HT : Hid (Turn (fun _ => False) w wr) := hide (by obtain ⟨d, hd⟩ := HD.out; rw [hd]; exact (Turn.refl _ w).drewN _)
      by_cases h1 : 200 < n
      · go_wp2_with fail
        all_goals
          go_ret
          exact ⟨_, rfl, fun h => (by cases h), HT.out⟩
      · obtain rfl : k = n := by omega
        by_cases hbm : 20000 < m
        · go_wp2_with fail
          all_goals
            go_ret
            exact ⟨_, rfl, fun h => (by simp at h; omega), HT.out⟩
        · have HF : Hid (l.length ≤ 200 ∧ ∀ x ∈ l, x.key.size ≤ 20000 ∧ x.val.size ≤ 20000) := hide ⟨by have := HN.out; omega, fun x hx => by
            obtain ⟨t, ht, rfl⟩ := List.getElem_of_mem hx
            have := HS.out t ht (by have := HN.out; omega)
            omega⟩
          clear hlt hk
          go_wp2_with fail
          all_goals
            go_ret
            exact ⟨_, rfl, fun _ => HF.out, HT.out⟩

/-! ### A table that may be none -/
def Mt (B : Nat) (nn : Bool) (m : Value) (xs : List MS.Ent) (js : List Thing) : Prop := if nn then m = .pointer none ∧ xs = [] ∧ js = [] else ∃ T v lent, m = MS.pt T ∧ js = MS.tb B T v lent xs
theorem Mt.none {B : Nat} : Mt B true (.pointer none) [] [] := ⟨rfl, rfl, rfl⟩
theorem Mt.some {B T : Nat} {v : Value} {lent : Bool} {xs : List MS.Ent} : Mt B false (MS.pt T) xs (MS.tb B T v lent xs) := ⟨T, v, lent, rfl, rfl⟩
section
variable {B : Nat} {w0 w : World} {rest js : List Thing} {nn : Bool} {m : Value} {xs : List MS.Ent} {n : Nat}
theorem set_m (key val : ByteArray) (hm : Mt B nn m xs js) (o : MS.Ok xs n) (hn : n ≤ 99999) (h : Lie B w0 w (js ++ rest)) :
    Calls Try.prog 13 #[m, .string key, .string val] w fun e w' => e = .returned (.bool (!nn && !has xs key)) ∧ ∃ js', Mt B nn m (if nn then xs else put xs key val) js' ∧ Hid (Lie B w0 w' (js' ++ rest)) := by
  cases nn with
  | true =>
    obtain ⟨rfl, rfl, rfl⟩ := hm
    refine (MS.set_nil key val w).mono ?_
    rintro e w' ⟨rfl, t⟩
    exact ⟨rfl, [], Mt.none, hide (h.stay t)⟩
  | false =>
    obtain ⟨T, v, lent, rfl, rfl⟩ := hm
    refine (MS.set_tb key val o hn h).mono ?_
    rintro e w' ⟨rfl, v', H⟩
    exact ⟨rfl, _, Mt.some, H⟩
theorem get_m (key : ByteArray) (hm : Mt B nn m xs js) (o : MS.Ok xs n) (hn : n ≤ 99999) (h : Lie B w0 w (js ++ rest)) :
    Calls Try.prog 27 #[m, .string key] w (MS.TL (.tuple #[.string (MS.get xs key).1, .bool (MS.get xs key).2]) B w0 (js ++ rest)) := by
  cases nn with
  | true =>
    obtain ⟨rfl, rfl, rfl⟩ := hm
    refine (MS.get_nil key w).mono ?_
    rintro e w' ⟨rfl, t⟩
    exact ⟨rfl, hide (h.stay t)⟩
  | false =>
    obtain ⟨T, v, lent, rfl, rfl⟩ := hm
    exact MS.get_tb key o hn h
theorem floor_m (key : ByteArray) (hm : Mt B nn m xs js) (o : MS.Ok xs n) (hn : n ≤ 99999) (h : Lie B w0 w (js ++ rest)) :
    Calls Try.prog 43 #[m, .string key] w (MS.TL (.tuple #[.string (MS.floor xs key).1, .string (MS.floor xs key).2.1, .bool (MS.floor xs key).2.2]) B w0 (js ++ rest)) := by
  cases nn with
  | true =>
    obtain ⟨rfl, rfl, rfl⟩ := hm
    refine (MS.floor_nil key w).mono ?_
    rintro e w' ⟨rfl, t⟩
    exact ⟨rfl, hide (h.stay t)⟩
  | false =>
    obtain ⟨T, v, lent, rfl, rfl⟩ := hm
    exact MS.floor_tb key o hn h
theorem len_m (hm : Mt B nn m xs js) (o : MS.Ok xs n) (hn : n ≤ 99999) (h : Lie B w0 w (js ++ rest)) :
    Calls Try.prog 28 #[m] w (MS.TL (.int .i64 (xs.length : Nat)) B w0 (js ++ rest)) := by
  cases nn with
  | true =>
    obtain ⟨rfl, rfl, rfl⟩ := hm
    refine (MS.len_nil w).mono ?_
    rintro e w' ⟨rfl, t⟩
    exact ⟨rfl, hide (h.stay t)⟩
  | false =>
    obtain ⟨T, v, lent, rfl, rfl⟩ := hm
    exact MS.len_tb o hn h
theorem del_m (key : ByteArray) (hm : Mt B nn m xs js) (o : MS.Ok xs n) (hn : n ≤ 99999) (h : Lie B w0 w (js ++ rest)) :
    Calls Try.prog 42 #[m, .string key] w fun e w' => e = .returned (.bool (has xs key)) ∧ ∃ js', Mt B nn m (del xs key) js' ∧ Hid (Lie B w0 w' (js' ++ rest)) := by
  cases nn with
  | true =>
    obtain ⟨rfl, rfl, rfl⟩ := hm
    refine (MS.delete_nil key w).mono ?_
    rintro e w' ⟨rfl, t⟩
    exact ⟨rfl, [], Mt.none, hide (h.stay t)⟩
  | false =>
    obtain ⟨T, v, lent, rfl, rfl⟩ := hm
    refine (MS.del_tb key o hn h).mono ?_
    rintro e w' ⟨rfl, v', lent', H⟩
    exact ⟨rfl, _, Mt.some, H⟩
theorem clear_m (hm : Mt B nn m xs js) (o : MS.Ok xs n) (hn : n ≤ 99999) (h : Lie B w0 w (js ++ rest)) :
    Calls Try.prog 47 #[m] w fun e w' => e = .returned (.tuple #[]) ∧ ∃ js', Mt B nn m [] js' ∧ Hid (Lie B w0 w' (js' ++ rest)) := by
  cases nn with
  | true =>
    obtain ⟨rfl, rfl, rfl⟩ := hm
    refine (MS.clear_nil w).mono ?_
    rintro e w' ⟨rfl, t⟩
    exact ⟨rfl, [], Mt.none, hide (h.stay t)⟩
  | false =>
    obtain ⟨T, v, lent, rfl, rfl⟩ := hm
    refine (MS.clear_tb o hn h).mono ?_
    rintro e w' ⟨rfl, v', H⟩
    exact ⟨rfl, _, Mt.some, H⟩
theorem twin_m (hm : Mt B nn m xs js) (o : MS.Ok xs n) (hn : n ≤ 99999) (h : Lie B w0 w (js ++ rest)) :
    Calls Try.prog 48 #[m] w fun e w' => ∃ m' js', e = .returned m' ∧ Mt B nn m' xs js' ∧ Hid (Lie B w0 w' (js' ++ (js ++ rest))) := by
  cases nn with
  | true =>
    obtain ⟨rfl, rfl, rfl⟩ := hm
    refine (MS.twin_nil w).mono ?_
    rintro e w' ⟨rfl, t⟩
    exact ⟨_, [], rfl, Mt.none, hide (h.stay t)⟩
  | false =>
    obtain ⟨T, v, lent, rfl, rfl⟩ := hm
    refine (MS.twin_tb o hn h).mono ?_
    rintro e w' ⟨T', v', rfl, H⟩
    exact ⟨_, _, rfl, Mt.some, H⟩
/-- A table that somebody may go over. -/
def FS (B : Nat) (nn : Bool) (m : Value) (xs : List MS.Ent) (v : Value) (lb : Nat) (sl : Value) (fs : List Thing) : Prop :=
  if nn then m = .pointer none ∧ xs = [] ∧ v = .slice none 0 0 ∧ fs = [MS.rw_ B (.slice none 0 0) [], MS.lbx lb sl] else ∃ T, m = MS.pt T ∧ fs = MS.tb B T v true xs ++ [MS.lbx lb sl]
theorem FS.mem {v : Value} {lb : Nat} {sl : Value} {fs : List Thing} (h : FS B nn m xs v lb sl fs) : MS.lbx lb sl ∈ fs ∧ MS.rw_ B v xs ∈ fs := by
  cases nn with
  | true => obtain ⟨_, rfl, rfl, rfl⟩ := h; simp
  | false => obtain ⟨T, _, rfl⟩ := h; simp
theorem FS.back {v : Value} {lb : Nat} {sl : Value} {fs : List Thing} (h : FS B nn m xs v lb sl fs) (hL : Lie B w0 w (fs ++ rest)) : ∃ js', Mt B nn m xs js' ∧ Lie B w0 w (js' ++ rest) := by
  cases nn with
  | true => obtain ⟨rfl, rfl, rfl, rfl⟩ := h; exact ⟨[], Mt.none, hL.pop.pop⟩
  | false => obtain ⟨T, rfl, rfl⟩ := h; exact ⟨_, Mt.some, hL.erase 2⟩
theorem from_m (key : ByteArray) (hm : Mt B nn m xs js) (o : MS.Ok xs n) (hn : n ≤ 99999) (h : Lie B w0 w (js ++ rest)) :
    Calls Try.prog 54 #[m, .string key] w fun e w' => ∃ lb sl v fs, e = .returned (.func (.func 73) #[] #[MS.pt lb]) ∧ Hid (MS.TailOf v sl xs (pos xs key)) ∧ FS B nn m xs v lb sl fs ∧ Hid (Lie B w0 w' (fs ++ rest)) := by
  cases nn with
  | true =>
    obtain ⟨rfl, rfl, rfl⟩ := hm
    refine (MS.from_nil key h).mono ?_
    rintro e w' ⟨lb, rfl, H⟩
    exact ⟨lb, .slice none 0 0, .slice none 0 0, _, rfl, hide (MS.tail_nil _ rfl _), ⟨rfl, rfl, rfl, rfl⟩, hide (H.out.push (t := MS.rw_ B (.slice none 0 0) []) (Turn.refl _ _) (World.ownsRow_nil _ _ _ _) (fun _ hk => by cases hk))⟩
  | false =>
    obtain ⟨T, v, lent, rfl, rfl⟩ := hm
    refine (MS.from_tb key o hn h).mono ?_
    rintro e w' ⟨lb, sl, rfl, HT, H⟩
    exact ⟨lb, sl, v, _, rfl, HT, ⟨T, rfl, rfl⟩, H⟩
/-- .. when it is written: what is gone over stays. -/
theorem set_fs {v : Value} {lb : Nat} {sl : Value} {fs : List Thing} (key val : ByteArray) (hf : FS B nn m xs v lb sl fs) (o : MS.Ok xs n) (hn : n ≤ 99999) (h : Lie B w0 w (fs ++ rest)) :
    Calls Try.prog 13 #[m, .string key, .string val] w fun e w' => (∃ r : Bool, e = .returned (.bool r)) ∧ ∃ js', Mt B nn m (if nn then xs else put xs key val) js' ∧ Hid (Lie B w0 w' (js' ++ (MS.rw_ B v xs :: MS.lbx lb sl :: rest))) := by
  cases nn with
  | true =>
    obtain ⟨rfl, rfl, rfl, rfl⟩ := hf
    refine (MS.set_nil key val w).mono ?_
    rintro e w' ⟨rfl, t⟩
    exact ⟨⟨_, rfl⟩, [], Mt.none, hide (h.stay t)⟩
  | false =>
    obtain ⟨T, rfl, rfl⟩ := hf
    refine (MS.set_keep key val o hn h).mono ?_
    rintro e w' ⟨rfl, v', H⟩
    exact ⟨⟨_, rfl⟩, _, Mt.some, H⟩
end
end Go.Proofs.Ytcaeechlpadboaa
