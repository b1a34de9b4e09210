/-
  MemSorted: the plain law; Len only reads.
-/
import Derived.Test.YtcaeechlpadboaaLaw1
import Derived.Test.YtcaeechlpadboaaStill
namespace Go.Proofs.Ytcaeechlpadboaa
open Go.RowKit Go.Maps Go.Shelf
attribute [local go_sem] Oper.semAt_some

/-- Of each key the last place, from the front. -/
def tabA (l : List Pr) : Nat → List MI.Ent
  | 0 => []
  | k + 1 => put (tabA l k) ((l[k]?.getD (k0, k0)).1) (k : Int)
theorem tabA_ok (l : List Pr) : ∀ k, MI.Ok (tabA l k) k
  | 0 => MI.Ok.nil
  | k + 1 => (tabA_ok l k).put _ _
/-- Of each key the last place, from behind. -/
def tabB (l : List Pr) : Nat → List MI.Ent
  | 0 => []
  | j + 1 => if has (tabB l j) ((l[l.length - 1 - j]?.getD (k0, k0)).1) then tabB l j else put (tabB l j) ((l[l.length - 1 - j]?.getD (k0, k0)).1) ((l.length - 1 - j : Nat) : Int)
theorem tabB_ok (l : List Pr) : ∀ k, MI.Ok (tabB l k) k
  | 0 => MI.Ok.nil
  | k + 1 => by
    unfold tabB
    split
    · exact (tabB_ok l k).mono (by omega)
    · exact (tabB_ok l k).put _ _
/-- y is a key with its last place between lo and hi. -/
def Last (l : List Pr) (lo hi : Nat) (y : MI.Ent) : Prop := ∃ p : Nat, lo ≤ p ∧ p < hi ∧ ∃ h : p < l.length, y = ((l[p]).1, (p : Int)) ∧ ∀ p' (h' : p' < l.length), p < p' → p' < hi → (l[p']).1 ≠ (l[p]).1
theorem mem_tabA (l : List Pr) : ∀ k, k ≤ l.length → ∀ y, y ∈ tabA l k ↔ Last l 0 k y
  | 0, _, y => by
    constructor
    · intro h; cases h
    · rintro ⟨p, _, h, _⟩; omega
  | k + 1, hk, y => by
    have ih := mem_tabA l k (by omega)
    have hkl : k < l.length := by omega
    rw [tabA, List.getElem?_eq_getElem hkl]
    show y ∈ put (tabA l k) (l[k]).1 (k : Int) ↔ _
    rw [mem_put _ _ _ (tabA_ok l k).hs, ih]
    constructor
    · rintro (rfl | ⟨⟨p, h0, hp, hpl, rfl, hn⟩, hne⟩)
      · exact ⟨k, by omega, by omega, hkl, rfl, fun p' _ h1 h2 => by omega⟩
      · refine ⟨p, h0, by omega, hpl, rfl, fun p' hp' h1 h2 => ?_⟩
        rcases Nat.lt_or_ge p' k with h | h
        · exact hn p' hp' h1 h
        · obtain rfl : p' = k := by omega
          exact fun e => hne e.symm
    · rintro ⟨p, h0, hp, hpl, rfl, hn⟩
      rcases Nat.lt_or_ge p k with h | h
      · exact .inr ⟨⟨p, h0, h, hpl, rfl, fun p' hp' h1 h2 => hn p' hp' h1 (by omega)⟩, fun e => hn k hkl h (by omega) e.symm⟩
      · obtain rfl : p = k := by omega
        exact .inl rfl
/-- A key that lies between has a last place. -/
theorem last_of (l : List Pr) (hi : Nat) : ∀ d p (h : p < l.length), p < hi → hi - p ≤ d → ∃ y, Last l p hi y ∧ y.1 = (l[p]).1
  | 0, p, h, hp, hd => by omega
  | d + 1, p, h, hp, hd => by
    by_cases hx : ∃ p', ∃ h' : p' < l.length, p < p' ∧ p' < hi ∧ (l[p']).1 = (l[p]).1
    · obtain ⟨p', h', h1, h2, h3⟩ := hx
      obtain ⟨y, ⟨q, a1, a2, a3, a4, a5⟩, hy⟩ := last_of l hi d p' h' h2 (by omega)
      exact ⟨y, ⟨q, by omega, a2, a3, a4, a5⟩, hy.trans h3⟩
    · exact ⟨((l[p]).1, (p : Int)), ⟨p, Nat.le_refl _, hp, h, rfl, fun p' h' h1 h2 e => hx ⟨p', h', h1, h2, e⟩⟩, rfl⟩
theorem mem_tabB (l : List Pr) : ∀ j, j ≤ l.length → ∀ y, y ∈ tabB l j ↔ Last l (l.length - j) l.length y
  | 0, _, y => by
    constructor
    · intro h; cases h
    · rintro ⟨p, h1, h2, _⟩; omega
  | j + 1, hj, y => by
    have ih := mem_tabB l j (by omega)
    obtain ⟨q, hq⟩ : ∃ q, q = l.length - 1 - j := ⟨_, rfl⟩
    have hql : q < l.length := by omega
    have e1 : l.length - j = q + 1 := by omega
    have e2 : l.length - (j + 1) = q := by omega
    rw [e1] at ih
    rw [tabB, ← hq, List.getElem?_eq_getElem hql, e2]
    show y ∈ (if has (tabB l j) (l[q]).1 then tabB l j else put (tabB l j) (l[q]).1 (q : Int)) ↔ _
    by_cases hh : has (tabB l j) (l[q]).1 = true
    · rw [if_pos hh, ih]
      obtain ⟨z, hz, hzk⟩ := List.any_eq_true.1 hh
      obtain ⟨p, a1, a2, a3, rfl, a5⟩ := (ih z).1 hz
      have hzk : (l[p]).1 = (l[q]).1 := of_decide_eq_true hzk
      constructor
      · rintro ⟨p, b1, b2, b3, b4, b5⟩
        exact ⟨p, by omega, b2, b3, b4, b5⟩
      · rintro ⟨p', b1, b2, b3, b4, b5⟩
        rcases Nat.eq_or_lt_of_le b1 with rfl | h
        · exact absurd hzk (b5 p a3 (by omega) a2)
        · exact ⟨p', h, b2, b3, b4, b5⟩
    · rw [if_neg hh, mem_put _ _ _ (tabB_ok l j).hs, ih]
      have hno : ∀ p (hp : p < l.length), q < p → (l[p]).1 ≠ (l[q]).1 := by
        intro p hp h1 e
        obtain ⟨z, ⟨p2, a1, a2, a3, a4, a5⟩, hz⟩ := last_of l l.length l.length p hp hp (by omega)
        exact hh (List.any_eq_true.2 ⟨z, (ih z).2 ⟨p2, by omega, a2, a3, a4, a5⟩, decide_eq_true (hz.trans e)⟩)
      constructor
      · rintro (rfl | ⟨⟨p, b1, b2, b3, b4, b5⟩, _⟩)
        · exact ⟨q, Nat.le_refl _, hql, hql, rfl, fun p' h' h1 _ => hno p' h' h1⟩
        · exact ⟨p, by omega, b2, b3, b4, b5⟩
      · rintro ⟨p, b1, b2, b3, rfl, b5⟩
        rcases Nat.eq_or_lt_of_le b1 with rfl | h
        · exact .inl rfl
        · exact .inr ⟨⟨p, h, b2, b3, rfl, b5⟩, hno p b3 h⟩
theorem tab_same (l : List Pr) : tabB l l.length = tabA l l.length := by
  refine srt_ext _ _ (tabB_ok l _).hs (tabA_ok l _).hs fun y => ?_
  rw [mem_tabA l _ (Nat.le_refl _), mem_tabB l _ (Nat.le_refl _), Nat.sub_self]
/-- What a table of places says. -/
def Told (l : List Pr) (xs : List MI.Ent) : Prop := ∀ x ∈ xs, ∃ p : Nat, ∃ h : p < l.length, x.2 = (p : Int) ∧ (l[p]).1 = x.1
theorem told_A (l : List Pr) : Told l (tabA l l.length) := fun x hx => by
  obtain ⟨p, _, _, h, rfl, _⟩ := (mem_tabA l _ (Nat.le_refl _) x).1 hx
  exact ⟨p, h, rfl, rfl⟩

section
variable {base : Nat} {w0 w : World} {ts : List Thing} {j k T : Nat} {v : Value} {lent : Bool} {xs : List MI.Ent}
set_option maxRecDepth 100000 in
/-- Len only reads. -/
theorem len_q (a : MI.At base ts j k T v lent xs) (h : Lie base w0 w ts) : Calls Try.prog 19 #[MI.pt T] w fun e w' => e = .returned (.int .i64 (xs.length : Nat)) ∧ w' = w := by
  obtain ⟨A, c, rfl, hr⟩ := a.rd h
  obtain ⟨c0, c1, f0, f1⟩ := MI.mcells (h.get j a.hj)
  clear h hr a
  go_enter Try.func19, Try.ntmps19
  go_wp2_with fail
  go_ret
  exact ⟨rfl, rfl⟩
end

/-- Where the next greatest key lies. -/
structure Fl (l : List Pr) (xs : List MI.Ent) (key : ByteArray) (fk : ByteArray) (fv : Int) (fok there : Bool) (below : Nat) : Prop where
  hb : below = xs.length - pos xs key
  hle : pos xs key ≤ xs.length
  hok : fok = (decide (0 < (xs.length : Int) - (below : Int)) || there)
  hth : there = true → fk = key ∧ xs.length - pos xs fk = below
  hno : there = false → fok = true → Op.bytesLess fk.toList key.toList = true ∧ (∃ p : Nat, ∃ h : p < l.length, fv = (p : Int) ∧ (l[p]).1 = fk) ∧ xs.length - pos xs fk = below + 1
theorem fl_is (l : List Pr) (xs : List MI.Ent) (hs : Srt xs) (ht : Told l xs) (key : ByteArray) : Fl l xs key (MI.floor xs key).1 (MI.floor xs key).2.1 (MI.floor xs key).2.2 (MI.get xs key).2 (xs.length - pos xs key) := by
  have hle := pos_le xs key
  have hg : (MI.get xs key).2 = has xs key := by unfold MI.get; split <;> simp [*]
  obtain ⟨_, hfg⟩ := floor_get xs hs key
  rw [hg] at hfg ⊢
  refine ⟨rfl, hle, ?_, fun h => ⟨(hfg h).2.1, by rw [(hfg h).2.1]⟩, fun h h2 => ?_⟩
  · unfold MI.floor
    cases hh : has xs key with
    | true => simp
    | false =>
      by_cases hz : pos xs key = 0
      · simp [hz]
      · simp [hz]; omega
  · have hz : pos xs key ≠ 0 := fun hz => by unfold MI.floor at h2; rw [h, hz] at h2; simp at h2
    obtain ⟨q, hq⟩ : ∃ q, pos xs key = q + 1 := ⟨pos xs key - 1, by omega⟩
    have hql : q < xs.length := by omega
    have hf : MI.floor xs key = ((xs[q]).1, (xs[q]).2, true) := by
      unfold MI.floor
      rw [h, hq]
      simp [List.getElem?_eq_getElem hql]
    rw [hf]
    obtain ⟨p, hp, e1, e2⟩ := ht (xs[q]) (List.getElem_mem hql)
    refine ⟨?_, ⟨p, hp, e1, e2⟩, ?_⟩
    · rw [str_lt, decide_eq_true]
      exact (pos_ahead xs key hs q hql).1 (by omega)
    · rw [(pos_at xs hs q hql).1]; omega
end Go.Proofs.Ytcaeechlpadboaa
