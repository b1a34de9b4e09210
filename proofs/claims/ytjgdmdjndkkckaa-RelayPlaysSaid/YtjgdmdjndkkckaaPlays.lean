/-
  RelayPlays: the walk.
-/
import Derived.Test.YtjgdmdjndkkckaaOneB
namespace Go.Proofs.Ytjgdmdjndkkckaa
open Go.Conc Go.RowKit

theorem rnew_ok (n : Int) (h0 : 1 ≤ n) (h1 : n ≤ 1024) (w : World) :
    Calls Try.prog 17 #[.int .i64 n] w fun e w' => e = .returned (.tuple #[.pointer (some ⟨w.heap.size, 0, none⟩), .int .i64 0]) ∧ w.alloc (.cells #[.int .i64 n, .slice none 0 0] 63) = w' := by
  go_enter Try.func17, Try.ntmps17
  go_wp2
  go_ret2
  exact ⟨rfl, rfl⟩
theorem rnew_no (n : Int) (h : n < 1 ∨ 1024 < n) (w : World) :
    Calls Try.prog 17 #[.int .i64 n] w fun e w' => e = .returned (.tuple #[.pointer none, .int .i64 1]) ∧ w = w' := by
  rcases h with h | h
  · go_enter Try.func17, Try.ntmps17
    go_wp2
    go_ret2
    exact ⟨rfl, rfl⟩
  · have h' : ¬ n < 1 := by omega
    go_enter Try.func17, Try.ntmps17
    go_wp2
    go_ret2
    exact ⟨rfl, rfl⟩

def arrP (S : Nat → St) : Array Value := #[.pointer (bp (S 0)), .pointer (bp (S 1)), .pointer (bp (S 2))]
def arrQ (S : Nat → St) : Array Value := #[.pointer (rp (S 0)), .pointer (rp (S 1)), .pointer (rp (S 2))]

def pickS (s0 s1 s2 : Int) (k : Nat) : Int := if k = 0 then s0 else if k = 1 then s1 else s2

/-- At a round's head: so many mailboxes have been made. -/
structure Made (w : World) (s0 s1 s2 : Int) (k : Nat) (S : Nat → St) (wr : World) : Prop where
  rest : ∀ j, k ≤ j → S j = none
  holds : Holds wr w.heap.size S
  sizes : wr.heap[w.heap.size]? = some (.cells #[.int .i64 s0, .int .i64 s1, .int .i64 s2] 41 (0, 0))
  ps : wr.heap[w.heap.size + 1]? = some (.cells (arrP S) 42 (0, 0))
  qs : wr.heap[w.heap.size + 1 + 1]? = some (.cells (arrQ S) 44 (0, 0))
  below : Below w.heap.size w wr

section
variable {w wr : World} {s0 s1 s2 : Int} {k : Nat} {S : Nat → St}
theorem Made.cells (h : Made w s0 s1 s2 k S wr) (hk : k < 3) : wr.cell? ⟨w.heap.size, k, none⟩ = some (.int .i64 (pickS s0 s1 s2 k)) := by
  have := h.sizes
  obtain rfl | rfl | rfl : k = 0 ∨ k = 1 ∨ k = 2 := by omega
  all_goals simp [World.cell?, this, pickS]
theorem arr_at {b : Nat} {t : TypeId} {x y z : Value} (h : wr.heap[b]? = some (.cells #[x, y, z] t (0, 0))) (hk : k < 3) : (∃ v, wr.cell? ⟨b, k, none⟩ = some v) ∧ wr.frozen? ⟨b, k, none⟩ = false := by
  obtain rfl | rfl | rfl : k = 0 ∨ k = 1 ∨ k = 2 := by omega
  all_goals simp [World.cell?, World.frozen?, h]
theorem set_arr {b : Nat} {t : TypeId} {cs : Array Value} {v : Value} (h : wr.heap[b]? = some (.cells cs t (0, 0))) : (wr.setCell ⟨b, k, none⟩ v).heap[b]? = some (.cells (cs.setIfInBounds k v) t (0, 0)) := by
  simp [World.setCell, Array.getElem?_modify, h]
theorem set_far {b b' : Nat} {v : Value} (hne : b' ≠ b) : (wr.setCell ⟨b, k, none⟩ v).heap[b']? = wr.heap[b']? := Below.heap_setCell wr ⟨b, k, none⟩ v b' hne
theorem arrP_set (hk : k < 3) (x : St) : (arrP S).setIfInBounds k (.pointer (bp x)) = arrP (upd S k x) := by
  obtain rfl | rfl | rfl : k = 0 ∨ k = 1 ∨ k = 2 := by omega
  all_goals simp [arrP, upd]
theorem arrQ_set (hk : k < 3) (x : St) : (arrQ S).setIfInBounds k (.pointer (rp x)) = arrQ (upd S k x) := by
  obtain rfl | rfl | rfl : k = 0 ∨ k = 1 ∨ k = 2 := by omega
  all_goals simp [arrQ, upd]
theorem upd_none (h : ∀ j, k ≤ j → S j = none) : upd S k none = S := by
  funext j; unfold upd; split
  · rename_i e; rw [e]; exact (h k (Nat.le_refl _)).symm
  · rfl
/-- Two stores into the arrays, behind whatever has been made. -/
theorem holds_stores {u : World} {v v' : Value} (h : Holds u w.heap.size S) (hp : u.heap[w.heap.size + 1]? = some (.cells (arrP S) 42 (0, 0))) (hq : u.heap[w.heap.size + 1 + 1]? = some (.cells (arrQ S) 44 (0, 0))) :
    Holds ((u.setCell ⟨w.heap.size + 1, k, none⟩ v).setCell ⟨w.heap.size + 1 + 1, k, none⟩ v') w.heap.size S := by
  have t : Turn (fun b => b = w.heap.size + 1 ∨ b = w.heap.size + 1 + 1) u ((u.setCell ⟨w.heap.size + 1, k, none⟩ v).setCell ⟨w.heap.size + 1 + 1, k, none⟩ v') :=
    ((Turn.refl _ u).setCell (p := ⟨w.heap.size + 1, k, none⟩) (fun _ => .inl rfl) v).setCell (p := ⟨w.heap.size + 1 + 1, k, none⟩) (fun _ => .inr rfl) v'
  have hob : ∀ b, (b = w.heap.size + 1 ∨ b = w.heap.size + 1 + 1) → ∃ cs t', u.heap[b]? = some (.cells cs t' (0, 0)) ∧ (t' = 42 ∨ t' = 44) := by
    rintro b (rfl | rfl)
    · exact ⟨_, _, hp, .inl rfl⟩
    · exact ⟨_, _, hq, .inr rfl⟩
  refine ⟨fun i hi y hy => ⟨(h.box i hi y hy).1.turn t ?_ ?_, (h.box i hi y hy).2⟩, fun i hi y hy => ⟨(h.ref i hi y hy).1.turn t ?_ ?_, (h.ref i hi y hy).2⟩, h.apart, h.up⟩
  · intro hb
    obtain ⟨cs, t', h1, h2⟩ := hob _ hb
    have := (h.box i hi y hy).1.1
    rw [h1] at this; injection this with this; injection this with _ h3; rcases h2 with h2 | h2 <;> rw [h2] at h3 <;> cases h3
  · intro hb
    obtain ⟨cs, t', h1, h2⟩ := hob _ hb
    obtain ⟨_, s, r, h3⟩ := (h.box i hi y hy).1
    rw [h1] at h3; cases h3
  · intro hb
    obtain ⟨cs, t', h1, h2⟩ := hob _ hb
    obtain ⟨v, h3, _⟩ := (h.ref i hi y hy).1
    rw [h1] at h3; injection h3 with h3; injection h3 with _ h3; rcases h2 with h2 | h2 <;> rw [h2] at h3 <;> cases h3
  · intro b hb cur fz hk
    obtain ⟨cs, t', h1, h2⟩ := hob _ hb
    rw [h1] at hk; injection hk with hk; injection hk with _ h3; rcases h2 with h2 | h2 <;> rw [h2] at h3 <;> cases h3
/-- A round that makes none. -/
theorem Made.no (h : Made w s0 s1 s2 k S wr) (hk : k < 3) : Made w s0 s1 s2 (k + 1) S ((wr.setCell ⟨w.heap.size + 1, k, none⟩ (.pointer none)).setCell ⟨w.heap.size + 1 + 1, k, none⟩ (.pointer none)) := by
  have hn := upd_none h.rest
  refine ⟨fun j hj => h.rest j (by omega), holds_stores h.holds h.ps h.qs, ?_, ?_, ?_, ?_⟩
  · rw [set_far (by omega), set_far (by omega)]; exact h.sizes
  · rw [set_far (by omega), set_arr h.ps]
    have := arrP_set (S := S) hk none
    rw [hn] at this
    exact congrArg (fun c => some (Obj.cells c 42 (0, 0))) this
  · rw [set_arr (by rw [set_far (by omega)]; exact h.qs)]
    have := arrQ_set (S := S) hk none
    rw [hn] at this
    exact congrArg (fun c => some (Obj.cells c 44 (0, 0))) this
  · exact (h.below.setCell (p := ⟨w.heap.size + 1, k, none⟩) (by simp) _).setCell (p := ⟨w.heap.size + 1 + 1, k, none⟩) (by simp only; omega) _
/-- A round that makes both. -/
theorem Made.yes (h : Made w s0 s1 s2 k S wr) (hk : k < 3) {n : Int} (h0 : 1 ≤ n) (h1 : n ≤ 1024) {w1 : World} (hn : NewTo wr (wr.heap.size + 1) wr.heap.size n.toNat w1) :
    Made w s0 s1 s2 (k + 1) (upd S k (some ⟨wr.heap.size + 1, wr.heap.size, w1.heap.size, n.toNat, []⟩))
      (((w1.alloc (.cells #[.int .i64 n, .slice none 0 0] 63)).setCell ⟨w.heap.size + 1, k, none⟩ (.pointer (some ⟨wr.heap.size + 1, 0, none⟩))).setCell ⟨w.heap.size + 1 + 1, k, none⟩ (.pointer (some ⟨w1.heap.size, 0, none⟩))) := by
  obtain ⟨x, hx⟩ : ∃ x : Bx, x = ⟨wr.heap.size + 1, wr.heap.size, w1.heap.size, n.toNat, []⟩ := ⟨_, rfl⟩
  obtain ⟨u, hu⟩ : ∃ u, u = w1.alloc (.cells #[.int .i64 n, .slice none 0 0] 63) := ⟨_, rfl⟩
  have hlt := hn.box.lt
  have hs0 := h.below.size
  have hq2 := (Array.getElem?_eq_some_iff.1 h.qs).1
  have tu : Turn (fun _ => False) wr u := by rw [hu]; exact ((Turn.of_below hn.below).alloc _)
  have tu1 : Turn (fun _ => False) w1 u := by rw [hu]; exact (Turn.refl _ w1).alloc _
  have hu1 : u.heap[w1.heap.size]? = some (.cells #[.int .i64 n, .slice none 0 0] 63 (0, 0)) := by rw [hu]; exact heap_alloc_new w1 _
  have hSu := h.holds.turn tu
  have hxb : BoxSt u (some x) := by
    rw [hx]
    exact BoxSt.mk (y := ⟨_, _, _, _, []⟩) (hn.box.turn tu1 (fun h => h) (fun h => h)) ⟨by simp only; omega, by simp only; omega, by simp⟩
  have hxr : RefSt u w.heap.size (some x) := by
    rw [hx]
    refine RefSt.mk (y := ⟨_, _, _, _, []⟩) ⟨.slice none 0 0, ?_, World.ownsRow_nil _ _ _ _⟩ ⟨by simp only; omega, by simp only; omega, by simp⟩
    rw [hu1, Int.toNat_of_nonneg (by omega)]
  have hap : ∀ i, i < 3 → i ≠ k → Apart (S i) (some x) := by
    intro i hi _ a b ha hb
    injection hb with hb
    subst hb
    have l1 := (h.holds.box i hi a ha).1.lt
    have l2 := (h.holds.ref i hi a ha).1.lt
    have := hn.below.size
    rw [hx]
    exact ⟨by simp only; omega, by simp only; omega, by simp only; omega⟩
  have hold : Holds u w.heap.size (upd S k (some x)) := by
    refine ⟨fun i hi => ?_, fun i hi => ?_, fun i j hi hj hne => ?_, fun i y hi hy => ?_⟩
    · unfold upd; split
      · exact hxb
      · exact hSu.box i hi
    · unfold upd; split
      · exact hxr
      · exact hSu.ref i hi
    · unfold upd; split
      · rename_i e; rw [if_neg (by omega)]; exact (hap j hj (by omega)).symm
      · split
        · rename_i n1 _; exact hap i hi n1
        · exact hSu.apart i j hi hj hne
    · unfold upd at hy
      split at hy
      · injection hy with hy
        subst hy
        have := hn.below.size
        rw [hx]
        exact ⟨by simp only; omega, by simp only; omega, by simp only; omega⟩
      · exact hSu.up i y hi hy
  rw [← hu]
  have gp := tu.obj h.ps (fun h => h)
  have gq := tu.obj h.qs (fun h => h)
  have hpp := arrP_set (S := S) hk (some x)
  have hqq := arrQ_set (S := S) hk (some x)
  have eb : bp (some x) = some ⟨wr.heap.size + 1, 0, none⟩ := by rw [hx]; rfl
  have er : rp (some x) = some ⟨w1.heap.size, 0, none⟩ := by rw [hx]; rfl
  rw [eb] at hpp
  rw [er] at hqq
  rw [← hx]
  have bu : Below w.heap.size w u := h.below.trans (tu.below hs0 (fun _ h => h.elim))
  refine ⟨fun j hj => ?_, ?_, ?_, ?_, ?_, ?_⟩
  · unfold upd; rw [if_neg (by omega)]; exact h.rest j (by omega)
  · have hb' := hold
    have t : Turn (fun b => b = w.heap.size + 1 ∨ b = w.heap.size + 1 + 1) u ((u.setCell ⟨w.heap.size + 1, k, none⟩ (.pointer (some ⟨wr.heap.size + 1, 0, none⟩))).setCell ⟨w.heap.size + 1 + 1, k, none⟩ (.pointer (some ⟨w1.heap.size, 0, none⟩))) :=
      ((Turn.refl _ u).setCell (p := ⟨w.heap.size + 1, k, none⟩) (fun _ => .inl rfl) _).setCell (p := ⟨w.heap.size + 1 + 1, k, none⟩) (fun _ => .inr rfl) _
    have hob : ∀ b, (b = w.heap.size + 1 ∨ b = w.heap.size + 1 + 1) → ∃ cs t', u.heap[b]? = some (.cells cs t' (0, 0)) ∧ (t' = 42 ∨ t' = 44) := by
      rintro b (rfl | rfl)
      · exact ⟨_, _, gp, .inl rfl⟩
      · exact ⟨_, _, gq, .inr rfl⟩
    refine ⟨fun i hi y hy => ⟨(hb'.box i hi y hy).1.turn t ?_ ?_, (hb'.box i hi y hy).2⟩, fun i hi y hy => ⟨(hb'.ref i hi y hy).1.turn t ?_ ?_, (hb'.ref i hi y hy).2⟩, hb'.apart, hb'.up⟩
    · intro hb
      obtain ⟨cs, t', h1, h2⟩ := hob _ hb
      have := (hb'.box i hi y hy).1.1
      rw [h1] at this; injection this with this; injection this with _ h3; rcases h2 with h2 | h2 <;> rw [h2] at h3 <;> cases h3
    · intro hb
      obtain ⟨cs, t', h1, h2⟩ := hob _ hb
      obtain ⟨_, s, r, h3⟩ := (hb'.box i hi y hy).1
      rw [h1] at h3; cases h3
    · intro hb
      obtain ⟨cs, t', h1, h2⟩ := hob _ hb
      obtain ⟨v, h3, _⟩ := (hb'.ref i hi y hy).1
      rw [h1] at h3; injection h3 with h3; injection h3 with _ h3; rcases h2 with h2 | h2 <;> rw [h2] at h3 <;> cases h3
    · intro b hb cur fz hk
      obtain ⟨cs, t', h1, h2⟩ := hob _ hb
      rw [h1] at hk; injection hk with hk; injection hk with _ h3; rcases h2 with h2 | h2 <;> rw [h2] at h3 <;> cases h3
  · rw [set_far (by omega), set_far (by omega)]; exact tu.obj h.sizes (fun h => h)
  · rw [set_far (by omega), set_arr gp]; exact congrArg (fun c => some (Obj.cells c 42 (0, 0))) hpp
  · rw [set_arr (by rw [set_far (by omega)]; exact gq)]; exact congrArg (fun c => some (Obj.cells c 44 (0, 0))) hqq
  · exact (bu.setCell (p := ⟨w.heap.size + 1, k, none⟩) (by simp) _).setCell (p := ⟨w.heap.size + 1 + 1, k, none⟩) (by simp only; omega) _
end

/-- While the acts are gone through. -/
structure Goes (w : World) (S : Nat → St) (wr : World) : Prop where
  holds : Holds wr w.heap.size S
  ps : wr.heap[w.heap.size + 1]? = some (.cells (arrP S) 42 (0, 0))
  qs : wr.heap[w.heap.size + 1 + 1]? = some (.cells (arrQ S) 44 (0, 0))
  below : Below w.heap.size w wr
theorem arr_key {S S' : Nat → St} (h : ∀ i, i < 3 → key (S' i) = key (S i)) : arrP S' = arrP S ∧ arrQ S' = arrQ S := by
  have h0 := key_bp (h 0 (by omega))
  have h1 := key_bp (h 1 (by omega))
  have h2 := key_bp (h 2 (by omega))
  unfold arrP arrQ
  rw [h0.1, h1.1, h2.1, h0.2, h1.2, h2.2]
  exact ⟨rfl, rfl⟩
theorem not_touch {w : World} {base : Nat} {S : Nat → St} (h : Holds w base S) {b : Nat} {cs : Array Value} {t : TypeId} (hb : w.heap[b]? = some (.cells cs t (0, 0))) (ht : t ≠ 63) : ¬ touch S b := by
  rintro ⟨i, hi, (⟨y, hy, e⟩ | ⟨y, hy, e⟩)⟩
  · obtain ⟨_, s, r, h3⟩ := (h.box i hi y hy).1
    rw [e, h3] at hb; cases hb
  · obtain ⟨v, h3, _⟩ := (h.ref i hi y hy).1
    rw [e, h3] at hb; injection hb with hb; injection hb with _ hb; exact ht hb.symm
theorem touch_up {w : World} {base : Nat} {S : Nat → St} (h : Holds w base S) {b : Nat} (ht : touch S b) : base ≤ b := by
  obtain ⟨i, hi, (⟨y, hy, e⟩ | ⟨y, hy, e⟩)⟩ := ht
  · have := (h.up i y hi hy).2.1; omega
  · have := (h.up i y hi hy).2.2; omega
theorem Goes.step {w wr w1 : World} {S S' : Nat → St} (h : Goes w S wr) (t : Turn (touch S) wr w1) (h' : Holds w1 w.heap.size S') (hk : ∀ i, i < 3 → key (S' i) = key (S i)) : Goes w S' w1 := by
  obtain ⟨e1, e2⟩ := arr_key hk
  refine ⟨h', ?_, ?_, h.below.trans (t.below h.below.size (fun k hk => touch_up h.holds hk))⟩
  · rw [e1]; exact t.obj h.ps (not_touch h.holds h.ps (by decide))
  · rw [e2]; exact t.obj h.qs (not_touch h.holds h.qs (by decide))
theorem arr_cells {w : World} {b : Nat} {x y z : Value} {t : TypeId} (h : w.heap[b]? = some (.cells #[x, y, z] t (0, 0))) : w.cell? ⟨b, 0, none⟩ = some x ∧ w.cell? ⟨b, 1, none⟩ = some y ∧ w.cell? ⟨b, 2, none⟩ = some z := by
  simp [World.cell?, h]

set_option maxRecDepth 100000 in
set_option maxHeartbeats 2000000 in
theorem plays_ok (s0 s1 s2 : Int) (vl : Value) (l : List ActD) (w : World) (hl : Rd w 4 vl l.length (l.flatMap actCells)) (hm : l.length ≤ 300) :
    Calls Try.prog 5 #[.agg #[.int .i64 s0, .int .i64 s1, .int .i64 s2], vl] w fun e w' => e = .returned (.bool true) ∧ Below w.heap.size w w' := by
  have HR := hide hl
  obtain ⟨A, cA, rfl⟩ := hl.shape
  clear hl
  go_enter Try.func5, Try.ntmps5
  go_wp2_with fail
  refine (great_any _ _ _ _).mono ?_
  rintro e w' ⟨rfl, rfl⟩
  go_wp2_with fail
  have m0 : Made w s0 s1 s2 0 (fun _ => none) (((w.alloc (.cells #[.int .i64 s0, .int .i64 s1, .int .i64 s2] 41)).alloc (.cells #[.pointer none, .pointer none, .pointer none] 42)).alloc (.cells #[.pointer none, .pointer none, .pointer none] 44)) := by
    have e0 : (w.alloc (.cells #[.int .i64 s0, .int .i64 s1, .int .i64 s2] 41)).heap.size = w.heap.size + 1 := by simp
    have e1 : ((w.alloc (.cells #[.int .i64 s0, .int .i64 s1, .int .i64 s2] 41)).alloc (.cells #[.pointer none, .pointer none, .pointer none] 42)).heap.size = w.heap.size + 1 + 1 := by simp
    refine ⟨fun _ _ => rfl, ⟨fun _ _ => .none _, fun _ _ => .none _ _, fun _ _ _ _ _ => apart_none _, fun _ _ _ h => by cases h⟩, ?_, ?_, ?_, ?_⟩
    · rw [Below.heap_alloc _ _ _ (by rw [e1]; omega), Below.heap_alloc _ _ _ (by rw [e0]; omega)]; exact heap_alloc_new w _
    · rw [Below.heap_alloc _ _ _ (by rw [e1]; omega), ← e0]; exact heap_alloc_new _ _
    · rw [← e1]; exact heap_alloc_new _ _
    · exact (((Below.refl _ w).alloc (Nat.le_refl _) _).alloc (by simp) _).alloc (by rw [e1]; omega) _
  go_loopw [7] (fun i wr => ∃ k : Nat, k ≤ 3 ∧ i = .int .i64 k ∧ ∃ S, Made w s0 s1 s2 k S wr) (fun i _ => 3 - (intOf i).toNat)
  case atStart => exact ⟨0, by omega, rfl, _, m0⟩
  case round =>
    clear m0
    obtain ⟨k, hk, rfl, S, hm0⟩ := hrel
    by_cases hlt : k < 3
    · have hki : (k : Int) < 3 := by omega
      have cs := hm0.cells hlt
      have hsz := hm0.below.size
      have hlq := (Array.getElem?_eq_some_iff.1 hm0.qs).1
      generalize pickS s0 s1 s2 k = n at *
      by_cases hn : n < 1 ∨ 1024 < n
      · obtain ⟨⟨vp, cp⟩, fp⟩ := arr_at hm0.ps hlt
        obtain ⟨⟨vq, cq⟩, fq⟩ := arr_at hm0.qs hlt
        have HN := hide hn
        clear hn
        go_wp2_with fail
        refine (new_no n HN.out _).mono ?_
        rintro e w1 ⟨rfl, rfl⟩
        go_wp2_with fail
        refine (rnew_no n HN.out _).mono ?_
        rintro e w2 ⟨rfl, rfl⟩
        go_wp2_with fail
        go_roundw
        case rel => exact ⟨k + 1, by omega, by go_num, S, hm0.no hlt⟩
        case measure => simp [intOf]; omega
      · have h1 : 1 ≤ n := by omega
        have h2 : n ≤ 1024 := by omega
        clear hn
        go_wp2_with fail
        refine (new_box n h1 h2 _).mono ?_
        rintro e w1 ⟨rfl, hnew⟩
        have cs1 := (hnew.below.cell (p := ⟨w.heap.size, k, none⟩) (show w.heap.size < wr.heap.size by omega)).trans cs
        go_wp2_with fail
        refine (rnew_ok n h1 h2 _).mono ?_
        rintro e w2 ⟨rfl, hw2⟩
        have tu : Turn (fun _ => False) wr w2 := by rw [← hw2]; exact ((Turn.of_below hnew.below).alloc _)
        obtain ⟨⟨vp, cp⟩, fp⟩ := arr_at (tu.obj hm0.ps (fun h => h)) hlt
        obtain ⟨⟨vq, cq⟩, fq⟩ := arr_at (tu.obj hm0.qs (fun h => h)) hlt
        have hy := hm0.yes hlt h1 h2 hnew
        rw [hw2] at hy
        have HY := hide hy
        clear hy hw2
        go_wp2_with fail
        go_roundw
        case rel => exact ⟨k + 1, by omega, by go_num, _, HY.out⟩
        case measure => simp [intOf]; omega
    · have hg0 : Goes w S wr := ⟨hm0.holds, hm0.ps, hm0.qs, hm0.below⟩
      clear hm0
      go_wp2_with fail
      go_loopw [12] (fun i wr => ∃ k : Nat, k ≤ l.length ∧ i = .int .i64 k ∧ ∃ S, Goes w S wr) (fun i _ => l.length - (intOf i).toNat)
      case atStart => exact ⟨0, by omega, rfl, S, hg0⟩
      case round =>
        clear hg0
        obtain ⟨j, hj, rfl, T, hg⟩ := hrel
        have hsz := hg.below.size
        by_cases hlt : j < l.length
        · obtain ⟨bl, ol, rfl, hbl, hcell⟩ := HR.out.cells (by omega)
          have c0 := (hg.below.cell (p := ⟨bl, _, none⟩) hbl).trans (hcell _ _ (act_at l j hlt).1)
          have c1 := (hg.below.cell (p := ⟨bl, _, none⟩) hbl).trans (hcell _ _ (act_at l j hlt).2.1)
          have c2 := (hg.below.cell (p := ⟨bl, _, none⟩) hbl).trans (hcell _ _ (act_at l j hlt).2.2.1)
          have c3 := (hg.below.cell (p := ⟨bl, _, none⟩) hbl).trans (hcell _ _ (act_at l j hlt).2.2.2)
          rw [← Nat.add_assoc] at c1 c2 c3
          generalize l[j] = x at *
          clear hcell
          obtain ⟨p0, p1, p2⟩ := arr_cells hg.ps
          obtain ⟨q0, q1, q2⟩ := arr_cells hg.qs
          have hji : (j : Int) < (l.length : Int) := by omega
          go_wp2_with fail
          go_region_with (go_at_call 18; refine (one_any T w.heap.size _ (by exact hg.holds.turn (Turn.refl _ _).drew) (by exact hsz) x).mono ?_; rintro e w1 ⟨rfl, t1, S', h1, hk1⟩)
          all_goals
            go_wp2_with fail
            go_roundw
            case rel => exact ⟨j + 1, by omega, by go_num, S', hg.step ⟨t1.os, t1.tape, t1.output, t1.size, t1.block⟩ h1 hk1⟩
            case measure => simp [intOf]; omega
        · go_wp2_with fail
          refine (wakes_any _).mono ?_
          rintro e w7 ⟨rfl, hb7⟩
          go_wp2_with fail
          go_ret
          exact ⟨rfl, hg.below.trans (hb7.mono hsz)⟩
end Go.Proofs.Ytjgdmdjndkkckaa
