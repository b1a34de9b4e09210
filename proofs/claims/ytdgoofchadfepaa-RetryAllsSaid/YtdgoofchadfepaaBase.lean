/-
  Base.
-/
import Derived.Test.YtdgoofchadfepaaIter2
import Derived.Shelf.Abstract
namespace Go.Proofs.Ytdgoofchadfepaa
open Go.RowKit Go.Shelf
attribute [local go_sem] Oper.semAt_some

abbrev ibox (b : Nat) (n : Int) (t : TypeId) : Thing := box b (.cells #[.int .i64 n] t (0, 0))
theorem cell1 {w : World} {b : Nat} {v : Value} {t : TypeId} (h : w.heap[b]? = some (.cells #[v] t (0, 0))) : w.cell? ⟨b, 0, none⟩ = some v ∧ w.frozen? ⟨b, 0, none⟩ = false := by
  simp [World.cell?, World.frozen?, h]
/-- What Base tells. -/
def TellsTwo (b e : Int) (w : World) (en : Ending) (w' : World) : Prop := en = .returned (.tuple #[.int .i64 b, .int .i64 e]) ∧ Below w.heap.size w w'
theorem enters18 : ∀ args w, (callFunc 18 args).run Try.prog w = .ok (.enter 18 args) w := enters_of Try.func18 (by kernel_rfl) rfl

set_option maxRecDepth 100000 in
set_option maxHeartbeats 2000000 in
theorem base_arg (p : Po) (a : Int) (h : ¬ Right p ∨ a < 1) (w : World) : Calls Try.prog 8 #[p.v, .int .i64 a] w (TellsTwo 0 1 w) := by
  have s4 := ((((Lie.start w).alloc (.cells #[.int .i64 p.first, .int .i64 p.cap, .int .i64 p.num, .int .i64 p.den, .int .i64 p.spread, .int .i64 p.most] 23)).alloc (.cells #[.int .i64 a] 3)).alloc (.cells #[.int .i64 0] 2)).alloc (.cells #[.int .i64 0] 25)
  simp only [World.size_alloc] at s4
  obtain ⟨W, hW⟩ : ∃ W, W = (((w.alloc (.cells #[.int .i64 p.first, .int .i64 p.cap, .int .i64 p.num, .int .i64 p.den, .int .i64 p.spread, .int .i64 p.most] 23)).alloc (.cells #[.int .i64 a] 3)).alloc (.cells #[.int .i64 0] 2)).alloc (.cells #[.int .i64 0] 25) := ⟨_, rfl⟩
  rw [← hW] at s4
  have S4 := hide s4
  have HW := hide hW
  clear s4 hW
  by_cases hr : Right p
  · have ha : a < 1 := h.resolve_left (fun h => h hr)
    have HR := hide hr
    clear h hr
    go_enter Try.func8, Try.ntmps8
    go_wp2_with fail
    rw [← HW.out]
    refine (check_yes p HR.out W).mono ?_
    rintro e w1 ⟨rfl, t1⟩
    have s1 := S4.out.stay t1
    have S1 := hide s1
    obtain ⟨c0, f0⟩ := cell1 (s1.get 0 rfl)
    obtain ⟨c1, f1⟩ := cell1 (s1.get 1 rfl)
    obtain ⟨c2, f2⟩ := cell1 (s1.get 2 rfl)
    clear s1 t1
    go_wp2_with fail
    have fin := (S1.out.setBox 1 rfl 0 (.int .i64 0)).setBox 0 rfl 0 (.int .i64 1)
    generalize ((w1.setCell ⟨w.heap.size + 1 + 1, 0, none⟩ (.int .i64 0)).setCell ⟨w.heap.size + 1 + 1 + 1, 0, none⟩ (.int .i64 1)) = Y at *
    obtain ⟨y0, _⟩ := cell1 (fin.get 0 rfl)
    obtain ⟨y1, _⟩ := cell1 (fin.get 1 rfl)
    exact bodyPost_ret (v := .tuple #[.int .i64 0, .int .i64 1]) (by simp [results, Try.results8, go_sem, y0, y1]) rfl ⟨rfl, fin.below⟩
  · have HN := hide hr
    clear h hr
    go_enter Try.func8, Try.ntmps8
    go_wp2_with fail
    rw [← HW.out]
    refine (check_no p HN.out W).mono ?_
    rintro e w1 ⟨rfl, t1⟩
    have s1 := S4.out.stay t1
    have S1 := hide s1
    obtain ⟨c0, f0⟩ := cell1 (s1.get 0 rfl)
    obtain ⟨c1, f1⟩ := cell1 (s1.get 1 rfl)
    obtain ⟨c2, f2⟩ := cell1 (s1.get 2 rfl)
    clear s1 t1
    go_wp2_with fail
    have fin := (S1.out.setBox 1 rfl 0 (.int .i64 0)).setBox 0 rfl 0 (.int .i64 1)
    generalize ((w1.setCell ⟨w.heap.size + 1 + 1, 0, none⟩ (.int .i64 0)).setCell ⟨w.heap.size + 1 + 1 + 1, 0, none⟩ (.int .i64 1)) = Y at *
    obtain ⟨y0, _⟩ := cell1 (fin.get 0 rfl)
    obtain ⟨y1, _⟩ := cell1 (fin.get 1 rfl)
    exact bodyPost_ret (v := .tuple #[.int .i64 0, .int .i64 1]) (by simp [results, Try.results8, go_sem, y0, y1]) rfl ⟨rfl, fin.below⟩

/-- In the loop: none of those that came was the attempt. -/
def BaseI (a : Int) (hb : Nat) (pre : List (Int × Int)) (ks : List Thing) : Prop :=
  (∀ y ∈ pre, y.1 ≠ a) ∧ ks = [ibox (hb + 1 + 1 + 1) 0 25, ibox (hb + 1 + 1) 0 2, ibox (hb + 1) a 3]
/-- It was. -/
def BaseX (a : Int) (hb : Nat) (c : Code) (pre : List (Int × Int)) (ks : List Thing) : Prop :=
  c = .ret ∧ ∃ b, (a, b) ∈ pre ∧ ks = [ibox (hb + 1 + 1 + 1) 0 25, ibox (hb + 1 + 1) b 2, ibox (hb + 1) a 3]

theorem mem_upto (p : Po) (n : Nat) (a : Int) (h1 : 1 ≤ a) (h2 : a ≤ n) : (a, bas p (a - 1).toNat) ∈ upto p n := by
  unfold upto
  rw [List.mem_map]
  exact ⟨(a - 1).toNat, List.mem_range.2 (by omega), by rw [show ((a - 1).toNat : Int) + 1 = a by omega]⟩
theorem upto_mem (p : Po) (n : Nat) (a b : Int) (h : (a, b) ∈ upto p n) : a ≤ n ∧ b = bas p (a - 1).toNat := by
  unfold upto at h
  rw [List.mem_map] at h
  obtain ⟨j, hj, e⟩ := h
  have hj := List.mem_range.1 hj
  injection e with e1 e2
  subst e1 e2
  exact ⟨by omega, by congr 1; omega⟩
set_option maxRecDepth 100000 in
set_option maxHeartbeats 4000000 in
theorem base_go (p : Po) (a : Int) (hr : Right p) (ha : 1 ≤ a) (n : Nat) (hn : p.most = n) (w : World) :
    Calls Try.prog 8 #[p.v, .int .i64 a] w fun e w' => (a ≤ n ∧ TellsTwo (bas p (a - 1).toNat) 0 w e w') ∨ ((n : Int) < a ∧ TellsTwo 0 4 w e w') := by
  have s4 := ((((Lie.start w).alloc (.cells #[.int .i64 p.first, .int .i64 p.cap, .int .i64 p.num, .int .i64 p.den, .int .i64 p.spread, .int .i64 p.most] 23)).alloc (.cells #[.int .i64 a] 3)).alloc (.cells #[.int .i64 0] 2)).alloc (.cells #[.int .i64 0] 25)
  simp only [World.size_alloc] at s4
  obtain ⟨W, hW⟩ : ∃ W, W = (((w.alloc (.cells #[.int .i64 p.first, .int .i64 p.cap, .int .i64 p.num, .int .i64 p.den, .int .i64 p.spread, .int .i64 p.most] 23)).alloc (.cells #[.int .i64 a] 3)).alloc (.cells #[.int .i64 0] 2)).alloc (.cells #[.int .i64 0] 25) := ⟨_, rfl⟩
  rw [← hW] at s4
  have S4 := hide s4
  have HW := hide hW
  have HR := hide hr
  have HN := hide hn
  clear s4 hW hr hn
  refine callsIn_wide.1 (callsIn_of_wp_marks (n := 1) (F := Fence.wide) Try.func8 rfl trivial (wpIn_wide.2 ?_) rfl)
  simp only [Try.ntmps8, List.size_toArray, List.length_cons, List.length_nil, Nat.reduceAdd, Nat.reduceSub, Array.replicate_succ, Array.replicate_zero, List.push_toArray, List.append_toArray, List.nil_append, List.cons_append]
  go_wp2_with fail
  rw [← HW.out]
  refine (check_yes p HR.out W).mono ?_
  rintro e w1 ⟨rfl, t1⟩
  have s1 := S4.out.stay t1
  have S1 := hide s1
  obtain ⟨c0, f0⟩ := cell1 (s1.get 0 rfl)
  obtain ⟨c1, f1⟩ := cell1 (s1.get 1 rfl)
  obtain ⟨c2, f2⟩ := cell1 (s1.get 2 rfl)
  obtain ⟨d0, d1, d2, d3, d4, d5⟩ := pcells (s1.get 3 rfl)
  clear s1 t1
  go_wp2_with fail
  refine (all_any p w1).mono ?_
  rintro e w2 ⟨rfl, hw2⟩
  have s2 : Lie w.heap.size w w2 ([box w1.heap.size (pobj p)] ++ [ibox (w.heap.size + 1 + 1 + 1) 0 25, ibox (w.heap.size + 1 + 1) 0 2, ibox (w.heap.size + 1) a 3]) := by rw [hw2]; exact (S1.out.erase 3).alloc (pobj p)
  generalize w1.heap.size = pb at *
  clear hw2 c0 f0 c1 f1 c2 f2 d0 d1 d2 d3 d4 d5
  go_wp2_with fail
  refine wp_rangeFuncL (gf := 18) (lb := #[.pointer (some ⟨pb, 0, none⟩)]) rfl enters18 (iter_yes p HR.out n HN.out pb w.heap.size) (fun _ => rfl) (BaseI a w.heap.size) (BaseX a w.heap.size) ⟨by simp, rfl⟩ s2
    (fun x => { tmps := #[p.v, .int .i64 a, .pointer (some ⟨w.heap.size, 0, none⟩), .pointer (some ⟨w.heap.size + 1, 0, none⟩), .pointer (some ⟨w.heap.size + 1 + 1, 0, none⟩), .pointer (some ⟨w.heap.size + 1 + 1 + 1, 0, none⟩), .int .i64 x.1, .int .i64 x.2, p.v, .int .i64 0, .bool false, .bool false, .int .i64 a, .bool (decide (a < 1)), .bool (decide (a < 1)), p.v, .func (.func 18) #[] #[.pointer (some ⟨pb, 0, none⟩)], .int .i64 x.1, .int .i64 x.2, undef, undef, undef, undef], defers := [] }) ?assign ?body ?done ?stop
  case assign =>
    intro l m x W2 K hK
    gi_wp2
    exact hK
  case body =>
    rintro l m pre x us ks W2 hpre ⟨hno, rfl⟩ hL
    have HL := hide hL
    have HNO := hide hno
    obtain ⟨c0, f0⟩ := cell1 (hL.get 0 rfl)
    obtain ⟨c1, f1⟩ := cell1 (hL.get 1 rfl)
    obtain ⟨c2, f2⟩ := cell1 (hL.get 2 rfl)
    have hbe : ∀ k : Nat, w.heap.size + 1 + 1 ≠ w.heap.size + 1 + 1 + 1 := fun _ => by omega
    clear hL hno hpre hbe
    obtain ⟨i, b⟩ := x
    by_cases hi : i = a
    · subst hi
      gi_wp2
      have fin := (HL.out.setBox 1 rfl 0 (.int .i64 b)).setBox 0 rfl 0 (.int .i64 0)
      exact ⟨[ibox (w.heap.size + 1 + 1 + 1) 0 25, ibox (w.heap.size + 1 + 1) b 2, ibox (w.heap.size + 1) i 3], ⟨rfl, b, by simp, rfl⟩, fin⟩
    · have hib : (i == a) = false := by simpa using hi
      have HI := hide hi
      clear hi
      gi_wp2
      exact ⟨_, ⟨fun y hy => (List.mem_append.1 hy).elim (HNO.out y) (fun h => by simp at h; subst h; exact HI.out), rfl⟩, HL.out⟩
  case done =>
    rintro D ks W2 ⟨hno, rfl⟩ hL
    have HL := hide hL
    have HNO := hide hno
    obtain ⟨c1, f1⟩ := cell1 (hL.get 3 rfl)
    obtain ⟨c0, f0⟩ := cell1 (hL.get 2 rfl)
    clear hL hno s2
    go_wp2
    have fin := (HL.out.setBox 3 rfl 0 (.int .i64 0)).setBox 2 rfl 0 (.int .i64 4)
    have hK : _ = _ := fin.get 0 rfl
    have fin2 := (fin.put 0 rfl (.deferred none)).pop
    obtain ⟨y0, _⟩ := cell1 (fin2.get 1 rfl)
    obtain ⟨y1, _⟩ := cell1 (fin2.get 2 rfl)
    refine ⟨by simp, .inl ⟨_, _, rfl, run_takeDeferred hK, ?_⟩⟩
    refine ⟨.tuple #[.int .i64 0, .int .i64 4], ?_, .inr ⟨?_, rfl, fin2.below⟩⟩
    · simp [results, Try.f8, go_sem, y0, y1]
    · by_cases h : (n : Int) < a
      · exact h
      · exact absurd rfl (HNO.out _ (mem_upto p n a ha (by omega)))
  case stop =>
    rintro D c pre ks W2 hpre ⟨rfl, b, hin, rfl⟩ hL
    have HL := hide hL
    have hmem := upto_mem p n a b (hpre.subset hin)
    have HM := hide hmem
    clear hL hpre hin s2 hmem
    go_wp2
    have hK : _ = _ := HL.out.get 0 rfl
    have fin2 := (HL.out.put 0 rfl (.deferred none)).pop
    obtain ⟨y0, _⟩ := cell1 (fin2.get 1 rfl)
    obtain ⟨y1, _⟩ := cell1 (fin2.get 2 rfl)
    refine ⟨by simp, .inl ⟨_, _, rfl, run_takeDeferred hK, ?_⟩⟩
    refine ⟨.tuple #[.int .i64 b, .int .i64 0], ?_, .inl ⟨HM.out.1, by rw [HM.out.2], fin2.below⟩⟩
    simp [results, Try.f8, go_sem, y0, y1]

open Classical in
/-- An attempt's base, and the error. -/
noncomputable def baseOf (p : Po) (a : Int) : Int × Int := if ¬ Right p ∨ a < 1 then (0, 1) else if a ≤ p.most then (bas p (a - 1).toNat, 0) else (0, 4)
theorem baseOf_arg (p : Po) (a : Int) (h : ¬ Right p ∨ a < 1) : baseOf p a = (0, 1) := by unfold baseOf; rw [if_pos h]
theorem baseOf_go (p : Po) (a : Int) (h : Right p) (h1 : 1 ≤ a) (h2 : a ≤ p.most) : baseOf p a = (bas p (a - 1).toNat, 0) := by
  unfold baseOf
  rw [if_neg (fun h3 => h3.elim (fun h4 => h4 h) (fun h4 => by omega)), if_pos h2]
theorem baseOf_none (p : Po) (a : Int) (h : Right p) (h1 : 1 ≤ a) (h2 : p.most < a) : baseOf p a = (0, 4) := by
  unfold baseOf
  rw [if_neg (fun h3 => h3.elim (fun h4 => h4 h) (fun h4 => by omega)), if_neg (by omega)]
theorem base_any (p : Po) (a : Int) (w : World) : Calls Try.prog 8 #[p.v, .int .i64 a] w (TellsTwo (baseOf p a).1 (baseOf p a).2 w) := by
  by_cases h : ¬ Right p ∨ a < 1
  · rw [baseOf_arg p a h]
    exact base_arg p a h w
  · have hr : Right p := Classical.byContradiction fun h2 => h (.inl h2)
    have ha : 1 ≤ a := by
      by_cases h1 : a < 1
      · exact absurd (.inr h1) h
      · omega
    obtain ⟨n, hn⟩ : ∃ n : Nat, p.most = n := ⟨p.most.toNat, by have := hr.m1; omega⟩
    refine (base_go p a hr ha n hn w).mono ?_
    rintro e w' (⟨h1, h2⟩ | ⟨h1, h2⟩)
    · rw [baseOf_go p a hr ha (by omega)]
      exact h2
    · rw [baseOf_none p a hr ha (by omega)]
      exact h2

/-- The sum of bases. -/
def sumOf (l : List (Int × Int)) : Int := (l.map (·.2)).sum
theorem sumOf_snoc (l : List (Int × Int)) (x : Int × Int) : sumOf (l ++ [x]) = sumOf l + x.2 := by simp [sumOf]
theorem sumOf_bd (p : Po) (h : Right p) (n : Nat) (hn : n ≤ 30) (pre : List (Int × Int)) (hp : pre <+: upto p n) : 0 ≤ sumOf pre ∧ sumOf pre ≤ 32985348833280 := by
  have hc := h.c2
  have hlen : pre.length ≤ 30 := by
    have := hp.length_le
    simp [upto] at this
    omega
  have hall : ∀ x ∈ pre, 1 ≤ x.2 ∧ x.2 ≤ 1099511627776 := by
    intro x hx
    have hm := hp.subset hx
    unfold upto at hm
    rw [List.mem_map] at hm
    obtain ⟨j, _, rfl⟩ := hm
    have := bas_bd p h j
    exact ⟨this.1, by simp only; omega⟩
  have : 0 ≤ sumOf pre ∧ sumOf pre ≤ pre.length * 1099511627776 := by
    clear hp hlen
    induction pre with
    | nil => simp [sumOf]
    | cons x l ih =>
      have h1 := hall x (by simp)
      have h2 := ih (fun y hy => hall y (by simp [hy]))
      simp only [sumOf, List.map_cons, List.sum_cons, List.length_cons] at h2 ⊢
      omega
  omega
def TotalI (nb : Nat) (pre : List (Int × Int)) (ks : List Thing) : Prop := ks = [ibox nb (sumOf pre) 2]
def TellsOne (v : Int) (w : World) (en : Ending) (w' : World) : Prop := en = .returned (.int .i64 v) ∧ Below w.heap.size w w'

set_option maxRecDepth 100000 in
set_option maxHeartbeats 4000000 in
theorem total_of (p : Po) (xs : List (Int × Int)) (hit : ∀ pb base, IterL Try.prog 18 #[.pointer (some ⟨pb, 0, none⟩)] att xs [box pb (pobj p)] base) (hbd : ∀ pre, pre <+: xs → 0 ≤ sumOf pre ∧ sumOf pre ≤ 32985348833280) (w : World) :
    Calls Try.prog 11 #[p.v] w (TellsOne (sumOf xs) w) := by
  have s4 := ((Lie.start w).alloc (.cells #[.int .i64 p.first, .int .i64 p.cap, .int .i64 p.num, .int .i64 p.den, .int .i64 p.spread, .int .i64 p.most] 23)).alloc (.cells #[.int .i64 0] 2)
  simp only [World.size_alloc] at s4
  obtain ⟨W, hW⟩ : ∃ W, W = (w.alloc (.cells #[.int .i64 p.first, .int .i64 p.cap, .int .i64 p.num, .int .i64 p.den, .int .i64 p.spread, .int .i64 p.most] 23)).alloc (.cells #[.int .i64 0] 2) := ⟨_, rfl⟩
  rw [← hW] at s4
  have S4 := hide s4
  have HW := hide hW
  have HIT := hide hit
  have HBD := hide hbd
  clear s4 hW hit hbd
  refine callsIn_wide.1 (callsIn_of_wp_marks (n := 1) (F := Fence.wide) Try.func11 rfl trivial (wpIn_wide.2 ?_) rfl)
  simp only [Try.ntmps11, List.size_toArray, List.length_cons, List.length_nil, Nat.reduceAdd, Nat.reduceSub, Array.replicate_succ, Array.replicate_zero, List.push_toArray, List.append_toArray, List.nil_append, List.cons_append]
  go_wp2_with fail
  rw [← HW.out]
  refine (all_any p W).mono ?_
  rintro e w2 ⟨rfl, hw2⟩
  have s2 : Lie w.heap.size w w2 ([box W.heap.size (pobj p)] ++ [ibox (w.heap.size + 1) 0 2]) := by rw [hw2]; exact (S4.out.erase 1).alloc (pobj p)
  generalize W.heap.size = pb at *
  clear hw2
  go_wp2_with fail
  refine wp_rangeFuncL (gf := 18) (lb := #[.pointer (some ⟨pb, 0, none⟩)]) rfl enters18 (HIT.out pb w.heap.size) (fun _ => rfl) (TotalI (w.heap.size + 1)) (fun _ _ _ => False) rfl s2
    (fun x => { tmps := #[p.v, .pointer (some ⟨w.heap.size, 0, none⟩), .int .i64 0, .pointer (some ⟨w.heap.size + 1, 0, none⟩), undef, .int .i64 x.2, p.v, .func (.func 18) #[] #[.pointer (some ⟨pb, 0, none⟩)], .int .i64 x.1, .int .i64 x.2, undef, undef, undef, undef], defers := [] }) ?assign ?body ?done ?stop
  case assign =>
    intro l m x W2 K hK
    gi_wp2
    exact hK
  case body =>
    rintro l m pre x us ks W2 hpre rfl hL
    have HL := hide hL
    have hb1 := HBD.out pre ((List.prefix_append pre [x]).trans hpre)
    have hb2 := HBD.out _ hpre
    rw [sumOf_snoc] at hb2
    obtain ⟨c0, f0⟩ := cell1 (hL.get 0 rfl)
    have hst := hide (sumOf_snoc pre x)
    clear hL hpre
    obtain ⟨i, b⟩ := x
    generalize sumOf pre = s at *
    simp only at hb2
    gi_wp2
    exact ⟨[ibox (w.heap.size + 1) (s + b) 2], by show _ = _; rw [hst.out], HL.out.setBox 0 rfl 0 (.int .i64 (s + b))⟩
  case done =>
    rintro D ks W2 rfl hL
    have HL := hide hL
    obtain ⟨c0, f0⟩ := cell1 (hL.get 2 rfl)
    clear hL s2
    go_wp2
    have hK : _ = _ := HL.out.get 0 rfl
    have fin2 := (HL.out.put 0 rfl (.deferred none)).pop
    refine ⟨by simp, .inl ⟨_, _, rfl, run_takeDeferred hK, ?_⟩⟩
    exact ⟨_, results_tmp rfl _ _ _, rfl, fin2.below⟩
  case stop =>
    rintro D c pre ks W2 _ h _
    exact h.elim

open Classical in
noncomputable def totalOf (p : Po) : Int := if Right p then sumOf (upto p p.most.toNat) else 0
theorem total_any (p : Po) (w : World) : Calls Try.prog 11 #[p.v] w (TellsOne (totalOf p) w) := by
  by_cases h : Right p
  · have e : totalOf p = sumOf (upto p p.most.toNat) := by unfold totalOf; rw [if_pos h]
    rw [e]
    have hm := h.m1
    have hm2 := h.m2
    exact total_of p _ (fun pb base => iter_yes p h p.most.toNat (by omega) pb base) (fun pre hp => sumOf_bd p h p.most.toNat (by omega) pre hp) w
  · have e : totalOf p = sumOf [] := by unfold totalOf; rw [if_neg h]; rfl
    rw [e]
    exact total_of p [] (fun pb base => iter_no p h pb base) (fun pre hp => by rw [List.prefix_nil.1 hp]; exact ⟨Int.le_refl _, by decide⟩) w
end Go.Proofs.Ytdgoofchadfepaa
