/-
  NetWays: the walk.
-/
import Derived.Test.YtniiikgkeiomoaaRowW
namespace Go.Proofs.Ytniiikgkeiomoaa
open Go.RowKit Go.Maps

theorem lo_comm (a b : Int) : lo a b = lo b a := by unfold lo; split <;> split <;> omega
theorem hi_comm (a b : Int) : hi a b = hi b a := by unfold hi; split <;> split <;> omega
theorem cutOf_set (C : Cuts) (a b : Int) (on : Bool) (p : Pk) : cutOf (C.set (lo a b) (hi a b) on) p = if (p.from_ = a ∧ p.to_ = b) ∨ (p.from_ = b ∧ p.to_ = a) then on else cutOf C p := by
  unfold cutOf Cuts.set
  have h : (lo p.from_ p.to_ = lo a b ∧ hi p.from_ p.to_ = hi a b) ↔ ((p.from_ = a ∧ p.to_ = b) ∨ (p.from_ = b ∧ p.to_ = a)) := by
    by_cases c1 : p.from_ ≤ p.to_ <;> by_cases c2 : a ≤ b <;> simp only [lo, hi, c1, c2, if_true, if_false] <;> omega
  by_cases e : (p.from_ = a ∧ p.to_ = b) ∨ (p.from_ = b ∧ p.to_ = a)
  · rw [if_pos e]; dsimp only; rw [if_pos (h.2 e)]
  · rw [if_neg e]; dsimp only; rw [if_neg (fun h2 => e (h.1 h2))]

abbrev pbox (b : Nat) (p : Pk) : Thing := box b (.cells #[.int .i64 p.from_, .int .i64 p.to_, .string p.data] 25 (0, 0))

theorem send_okk (nb : Nat) (ps : List Pk) (p : Pk) (h : p.data.size ≤ 8192) (hl : ps.length < 1024) : sendOk (some nb) ps p = true := by simp [sendOk, h, hl]
theorem send_too (nb : Nat) (ps : List Pk) (C : Cuts) (p : Pk) (h : p.data.size ≤ 8192) (hl : ps.length < 1024) (hc : cutOf C p = false) : sendTo (some nb) ps C p = ps ++ [p] := by
  unfold sendTo; rw [if_pos ⟨send_okk nb ps p h hl, hc⟩]
theorem send_lost (o : Option Nat) (ps : List Pk) (C : Cuts) (p : Pk) (hc : cutOf C p = true) : sendTo o ps C p = ps := by
  unfold sendTo; rw [if_neg (by rw [hc]; simp)]
theorem come0 (C : Cuts) (p : Pk) (ps : List Pk) : comeOf C (p :: ps) 0 = if cutOf C p = true then none else some p := by
  unfold comeOf; rw [at_zero]; rfl
theorem lost0 (p : Pk) (ps : List Pk) : lostTo (p :: ps) 0 = ps := by
  unfold lostTo; rw [at_zero]; rfl
set_option maxRecDepth 100000 in
set_option maxHeartbeats 4000000 in
theorem ways_ok (a b c : Int) (one two : ByteArray) (w : World) (ha : (Lit.int .i64 a).wf = true) (hb : (Lit.int .i64 b).wf = true) (hc : (Lit.int .i64 c).wf = true)
    (h1 : one.size ≤ 8192) (h2 : two.size ≤ 8192) (hca : c ≠ a) (hcb : c ≠ b) :
    Calls Try.prog 7 #[.int .i64 a, .int .i64 b, .int .i64 c, .string one, .string two] w fun e w' => e = .returned (.bool true) ∧ Below w.heap.size w w' := by
  have h1' : ¬ (8192 : Int) < one.size := by omega
  have h2' : ¬ (8192 : Int) < two.size := by omega
  have e1 : (c == a) = false := by simpa using hca
  have e2 : (c == b) = false := by simpa using hcb
  have hp : Pk.ok ⟨a, b, one⟩ := ⟨ha, hb⟩
  have hq : Pk.ok ⟨b, a, two⟩ := ⟨hb, ha⟩
  have hr : Pk.ok ⟨a, c, two⟩ := ⟨ha, hc⟩
  have okp := hide (fun nb (ps : List Pk) (h : ps.length < 1024) => send_okk nb ps ⟨a, b, one⟩ h1 h)
  have okq := hide (fun nb (ps : List Pk) (h : ps.length < 1024) => send_okk nb ps ⟨b, a, two⟩ h2 h)
  have okr := hide (fun nb (ps : List Pk) (h : ps.length < 1024) => send_okk nb ps ⟨a, c, two⟩ h2 h)
  have k1p := hide (show cutOf (Cuts.none.set (lo b a) (hi b a) true) ⟨a, b, one⟩ = true by rw [cutOf_set]; simp)
  have k1q := hide (show cutOf (Cuts.none.set (lo b a) (hi b a) true) ⟨b, a, two⟩ = true by rw [cutOf_set]; simp)
  have k1r := hide (show cutOf (Cuts.none.set (lo b a) (hi b a) true) ⟨a, c, two⟩ = false by rw [cutOf_set, if_neg (by simp only; omega)]; rfl)
  have k2p := hide (show cutOf ((Cuts.none.set (lo b a) (hi b a) true).set (lo a b) (hi a b) false) ⟨a, b, one⟩ = false by rw [cutOf_set]; simp)
  have k2q := hide (show cutOf ((Cuts.none.set (lo b a) (hi b a) true).set (lo a b) (hi a b) false) ⟨b, a, two⟩ = false by rw [cutOf_set]; simp)
  have e1p := hide (show ((⟨a, c, two⟩ : Pk) = ⟨a, c, two⟩) from rfl)
  have eqr := fun w => run_eql_pk_self ⟨a, c, two⟩ w
  have eqp := fun w => run_eql_pk_self ⟨a, b, one⟩ w
  have eqq := fun w => run_eql_pk_self ⟨b, a, two⟩ w
  clear hca hcb hc
  go_enter Try.func7, Try.ntmps7
  go_wp2_with fail
  refine (awake_any w).mono ?_
  rintro e w0 ⟨rfl, hb0⟩
  go_wp2_with fail
  refine (new_any ((Lie.start w).of_below hb0)).mono ?_
  rintro e w1 ⟨rfl, s1⟩
  generalize w0.heap.size + 1 = nb at *
  unfold ptr
  clear hb0
  go_wp2_with fail
  have s1' := ((s1.alloc (.cells #[.int .i64 a, .int .i64 b, .string one] 25)).alloc (.cells #[.int .i64 b, .int .i64 a, .string two] 25)).alloc (.cells #[.int .i64 a, .int .i64 c, .string two] 25)
  simp only [World.size_alloc] at s1'
  refine (send_any s1' 3 (some nb) [] Cuts.none rfl ⟨a, b, one⟩ hp).mono ?_
  rintro e w102 ⟨rfl, s⟩
  rw [send_too _ _ _ _ h1 (by simp) rfl] at s
  have s2 : Lie w.heap.size w w102 [pbox (w1.heap.size + 1 + 1) ⟨a, c, two⟩, pbox (w1.heap.size + 1) ⟨b, a, two⟩, pbox w1.heap.size ⟨a, b, one⟩, net w.heap.size (some nb) [⟨a, b, one⟩] Cuts.none] := s
  clear s
  rw [okp.out _ _ (by simp)]
  obtain ⟨c3, d3, f3, _⟩ := cell3 (s2.get 1 rfl)
  have S1003 := hide s2
  clear s2
  go_wp2_with fail
  refine (send_any S1003.out 3 (some nb) [⟨a, b, one⟩] Cuts.none rfl ⟨b, a, two⟩ hq).mono ?_
  rintro e w104 ⟨rfl, s⟩
  rw [send_too _ _ _ _ h2 (by simp) rfl] at s
  have s4 : Lie w.heap.size w w104 [pbox (w1.heap.size + 1 + 1) ⟨a, c, two⟩, pbox (w1.heap.size + 1) ⟨b, a, two⟩, pbox w1.heap.size ⟨a, b, one⟩, net w.heap.size (some nb) [⟨a, b, one⟩, ⟨b, a, two⟩] Cuts.none] := s
  clear s
  rw [okq.out _ _ (by simp)]
  obtain ⟨c5, d5, f5, _⟩ := cell3 (s4.get 0 rfl)
  have S1005 := hide s4
  clear s4
  go_wp2_with fail
  refine (send_any S1005.out 3 (some nb) [⟨a, b, one⟩, ⟨b, a, two⟩] Cuts.none rfl ⟨a, c, two⟩ hr).mono ?_
  rintro e w106 ⟨rfl, s⟩
  rw [send_too _ _ _ _ h2 (by simp) rfl] at s
  have s6 : Lie w.heap.size w w106 [pbox (w1.heap.size + 1 + 1) ⟨a, c, two⟩, pbox (w1.heap.size + 1) ⟨b, a, two⟩, pbox w1.heap.size ⟨a, b, one⟩, net w.heap.size (some nb) [⟨a, b, one⟩, ⟨b, a, two⟩, ⟨a, c, two⟩] Cuts.none] := s
  clear s
  rw [okr.out _ _ (by simp)]
  have S1006 := hide s6
  clear s6
  go_wp2_with fail
  refine (cut_any S1006.out 3 (some nb) [⟨a, b, one⟩, ⟨b, a, two⟩, ⟨a, c, two⟩] Cuts.none rfl b a true (by decide) hb ha).mono ?_
  rintro e w107 ⟨rfl, s⟩
  have s7 : Lie w.heap.size w w107 [pbox (w1.heap.size + 1 + 1) ⟨a, c, two⟩, pbox (w1.heap.size + 1) ⟨b, a, two⟩, pbox w1.heap.size ⟨a, b, one⟩, net w.heap.size (some nb) [⟨a, b, one⟩, ⟨b, a, two⟩, ⟨a, c, two⟩] (Cuts.none.set (lo b a) (hi b a) true)] := s
  clear s
  obtain ⟨c8, d8, f8, _⟩ := cell3 (s7.get 2 rfl)
  have S1008 := hide s7
  clear s7
  go_wp2_with fail
  refine (send_any S1008.out 3 (some nb) [⟨a, b, one⟩, ⟨b, a, two⟩, ⟨a, c, two⟩] (Cuts.none.set (lo b a) (hi b a) true) rfl ⟨a, b, one⟩ hp).mono ?_
  rintro e w109 ⟨rfl, s⟩
  rw [send_lost _ _ _ _ k1p.out] at s
  have s9 : Lie w.heap.size w w109 [pbox (w1.heap.size + 1 + 1) ⟨a, c, two⟩, pbox (w1.heap.size + 1) ⟨b, a, two⟩, pbox w1.heap.size ⟨a, b, one⟩, net w.heap.size (some nb) [⟨a, b, one⟩, ⟨b, a, two⟩, ⟨a, c, two⟩] (Cuts.none.set (lo b a) (hi b a) true)] := s
  clear s
  rw [okp.out _ _ (by simp)]
  obtain ⟨c10, d10, f10, _⟩ := cell3 (s9.get 1 rfl)
  have S1010 := hide s9
  clear s9
  go_wp2_with fail
  refine (send_any S1010.out 3 (some nb) [⟨a, b, one⟩, ⟨b, a, two⟩, ⟨a, c, two⟩] (Cuts.none.set (lo b a) (hi b a) true) rfl ⟨b, a, two⟩ hq).mono ?_
  rintro e w111 ⟨rfl, s⟩
  rw [send_lost _ _ _ _ k1q.out] at s
  have s11 : Lie w.heap.size w w111 [pbox (w1.heap.size + 1 + 1) ⟨a, c, two⟩, pbox (w1.heap.size + 1) ⟨b, a, two⟩, pbox w1.heap.size ⟨a, b, one⟩, net w.heap.size (some nb) [⟨a, b, one⟩, ⟨b, a, two⟩, ⟨a, c, two⟩] (Cuts.none.set (lo b a) (hi b a) true)] := s
  clear s
  rw [okq.out _ _ (by simp)]
  have S1011 := hide s11
  clear s11
  go_wp2_with fail
  refine (twin_any S1011.out 3 (some nb) [⟨a, b, one⟩, ⟨b, a, two⟩, ⟨a, c, two⟩] (Cuts.none.set (lo b a) (hi b a) true) rfl (by simp)).mono ?_
  rintro e w112 ⟨o, ho, rfl, s⟩
  obtain ⟨yb, rfl⟩ := Option.isSome_iff_exists.1 ho
  unfold ptr
  have s12 : Lie w.heap.size w w112 [net w.heap.size (some yb) [⟨a, b, one⟩, ⟨b, a, two⟩, ⟨a, c, two⟩] (Cuts.none.set (lo b a) (hi b a) true), pbox (w1.heap.size + 1 + 1) ⟨a, c, two⟩, pbox (w1.heap.size + 1) ⟨b, a, two⟩, pbox w1.heap.size ⟨a, b, one⟩, net w.heap.size (some nb) [⟨a, b, one⟩, ⟨b, a, two⟩, ⟨a, c, two⟩] (Cuts.none.set (lo b a) (hi b a) true)] := s
  clear s
  have S1012 := hide s12
  clear s12
  go_wp2_with fail
  refine (waiting_any S1012.out 4 (some nb) [⟨a, b, one⟩, ⟨b, a, two⟩, ⟨a, c, two⟩] (Cuts.none.set (lo b a) (hi b a) true) rfl).mono ?_
  rintro e w' ⟨rfl, rfl⟩
  go_wp2_with fail
  refine (come_any S1012.out 4 (some nb) [⟨a, b, one⟩, ⟨b, a, two⟩, ⟨a, c, two⟩] (Cuts.none.set (lo b a) (hi b a) true) rfl 0 (by simp)).mono ?_
  rintro e w113 ⟨rfl, s⟩
  rw [lost0] at s
  have s13 : Lie w.heap.size w w113 [net w.heap.size (some yb) [⟨a, b, one⟩, ⟨b, a, two⟩, ⟨a, c, two⟩] (Cuts.none.set (lo b a) (hi b a) true), pbox (w1.heap.size + 1 + 1) ⟨a, c, two⟩, pbox (w1.heap.size + 1) ⟨b, a, two⟩, pbox w1.heap.size ⟨a, b, one⟩, net w.heap.size (some nb) [⟨b, a, two⟩, ⟨a, c, two⟩] (Cuts.none.set (lo b a) (hi b a) true)] := s
  clear s
  rw [come0, k1p.out, if_pos rfl, told_none]
  have S1013 := hide s13
  clear s13
  go_wp2_with fail
  refine (come_any (by exact (S1013.out).skip _) 4 (some nb) [⟨b, a, two⟩, ⟨a, c, two⟩] (Cuts.none.set (lo b a) (hi b a) true) rfl 0 (by simp)).mono ?_
  rintro e w114 ⟨rfl, s⟩
  rw [lost0] at s
  have s14 : Lie w.heap.size w w114 [net w.heap.size (some yb) [⟨a, b, one⟩, ⟨b, a, two⟩, ⟨a, c, two⟩] (Cuts.none.set (lo b a) (hi b a) true), pbox (w1.heap.size + 1 + 1) ⟨a, c, two⟩, pbox (w1.heap.size + 1) ⟨b, a, two⟩, pbox w1.heap.size ⟨a, b, one⟩, net w.heap.size (some nb) [⟨a, c, two⟩] (Cuts.none.set (lo b a) (hi b a) true)] := s
  clear s
  rw [come0, k1q.out, if_pos rfl, told_none]
  have S1014 := hide s14
  clear s14
  go_wp2_with fail
  refine (come_any (by exact (S1014.out).skip _) 4 (some nb) [⟨a, c, two⟩] (Cuts.none.set (lo b a) (hi b a) true) rfl 0 (by simp)).mono ?_
  rintro e w115 ⟨rfl, s⟩
  rw [lost0] at s
  have s15 : Lie w.heap.size w w115 [net w.heap.size (some yb) [⟨a, b, one⟩, ⟨b, a, two⟩, ⟨a, c, two⟩] (Cuts.none.set (lo b a) (hi b a) true), pbox (w1.heap.size + 1 + 1) ⟨a, c, two⟩, pbox (w1.heap.size + 1) ⟨b, a, two⟩, pbox w1.heap.size ⟨a, b, one⟩, net w.heap.size (some nb) [] (Cuts.none.set (lo b a) (hi b a) true)] := s
  clear s
  rw [come0, k1r.out, if_neg (by decide), told_some]
  have s := s15.alloc (.cells #[.int .i64 a, .int .i64 c, .string two] 25)
  clear s15
  have s15 : Lie w.heap.size w _ [pbox w115.heap.size ⟨a, c, two⟩, net w.heap.size (some yb) [⟨a, b, one⟩, ⟨b, a, two⟩, ⟨a, c, two⟩] (Cuts.none.set (lo b a) (hi b a) true), pbox (w1.heap.size + 1 + 1) ⟨a, c, two⟩, pbox (w1.heap.size + 1) ⟨b, a, two⟩, pbox w1.heap.size ⟨a, b, one⟩, net w.heap.size (some nb) [] (Cuts.none.set (lo b a) (hi b a) true)] := s
  clear s
  have S1015 := hide s15
  clear s15
  go_wp2_with fail
  refine (cut_any S1015.out 1 (some yb) [⟨a, b, one⟩, ⟨b, a, two⟩, ⟨a, c, two⟩] (Cuts.none.set (lo b a) (hi b a) true) rfl a b false (by unfold maxLen; simp [Cuts.set, Cuts.none]) ha hb).mono ?_
  rintro e w116 ⟨rfl, s⟩
  have s16 : Lie w.heap.size w w116 [pbox w115.heap.size ⟨a, c, two⟩, net w.heap.size (some yb) [⟨a, b, one⟩, ⟨b, a, two⟩, ⟨a, c, two⟩] ((Cuts.none.set (lo b a) (hi b a) true).set (lo a b) (hi a b) false), pbox (w1.heap.size + 1 + 1) ⟨a, c, two⟩, pbox (w1.heap.size + 1) ⟨b, a, two⟩, pbox w1.heap.size ⟨a, b, one⟩, net w.heap.size (some nb) [] (Cuts.none.set (lo b a) (hi b a) true)] := s
  clear s
  have S1016 := hide s16
  clear s16
  go_wp2_with fail
  refine (come_any S1016.out 1 (some yb) [⟨a, b, one⟩, ⟨b, a, two⟩, ⟨a, c, two⟩] ((Cuts.none.set (lo b a) (hi b a) true).set (lo a b) (hi a b) false) rfl 0 (by simp)).mono ?_
  rintro e w117 ⟨rfl, s⟩
  rw [lost0] at s
  have s17 : Lie w.heap.size w w117 [pbox w115.heap.size ⟨a, c, two⟩, net w.heap.size (some yb) [⟨b, a, two⟩, ⟨a, c, two⟩] ((Cuts.none.set (lo b a) (hi b a) true).set (lo a b) (hi a b) false), pbox (w1.heap.size + 1 + 1) ⟨a, c, two⟩, pbox (w1.heap.size + 1) ⟨b, a, two⟩, pbox w1.heap.size ⟨a, b, one⟩, net w.heap.size (some nb) [] (Cuts.none.set (lo b a) (hi b a) true)] := s
  clear s
  rw [come0, k2p.out, if_neg (by decide), told_some]
  have s := s17.alloc (.cells #[.int .i64 a, .int .i64 b, .string one] 25)
  clear s17
  have s17 : Lie w.heap.size w _ [pbox w117.heap.size ⟨a, b, one⟩, pbox w115.heap.size ⟨a, c, two⟩, net w.heap.size (some yb) [⟨b, a, two⟩, ⟨a, c, two⟩] ((Cuts.none.set (lo b a) (hi b a) true).set (lo a b) (hi a b) false), pbox (w1.heap.size + 1 + 1) ⟨a, c, two⟩, pbox (w1.heap.size + 1) ⟨b, a, two⟩, pbox w1.heap.size ⟨a, b, one⟩, net w.heap.size (some nb) [] (Cuts.none.set (lo b a) (hi b a) true)] := s
  clear s
  have S1017 := hide s17
  clear s17
  go_wp2_with fail
  refine (come_any S1017.out 2 (some yb) [⟨b, a, two⟩, ⟨a, c, two⟩] ((Cuts.none.set (lo b a) (hi b a) true).set (lo a b) (hi a b) false) rfl 0 (by simp)).mono ?_
  rintro e w118 ⟨rfl, s⟩
  rw [lost0] at s
  have s18 : Lie w.heap.size w w118 [pbox w117.heap.size ⟨a, b, one⟩, pbox w115.heap.size ⟨a, c, two⟩, net w.heap.size (some yb) [⟨a, c, two⟩] ((Cuts.none.set (lo b a) (hi b a) true).set (lo a b) (hi a b) false), pbox (w1.heap.size + 1 + 1) ⟨a, c, two⟩, pbox (w1.heap.size + 1) ⟨b, a, two⟩, pbox w1.heap.size ⟨a, b, one⟩, net w.heap.size (some nb) [] (Cuts.none.set (lo b a) (hi b a) true)] := s
  clear s
  rw [come0, k2q.out, if_neg (by decide), told_some]
  have s := s18.alloc (.cells #[.int .i64 b, .int .i64 a, .string two] 25)
  clear s18
  have s18 : Lie w.heap.size w _ [pbox w118.heap.size ⟨b, a, two⟩, pbox w117.heap.size ⟨a, b, one⟩, pbox w115.heap.size ⟨a, c, two⟩, net w.heap.size (some yb) [⟨a, c, two⟩] ((Cuts.none.set (lo b a) (hi b a) true).set (lo a b) (hi a b) false), pbox (w1.heap.size + 1 + 1) ⟨a, c, two⟩, pbox (w1.heap.size + 1) ⟨b, a, two⟩, pbox w1.heap.size ⟨a, b, one⟩, net w.heap.size (some nb) [] (Cuts.none.set (lo b a) (hi b a) true)] := s
  clear s
  obtain ⟨c19, d19, f19, _⟩ := cell3 (s18.get 0 rfl)
  obtain ⟨c20, d20, f20, _⟩ := cell3 (s18.get 1 rfl)
  obtain ⟨c21, d21, f21, _⟩ := cell3 (s18.get 2 rfl)
  obtain ⟨c22, d22, f22, _⟩ := cell3 (s18.get 4 rfl)
  obtain ⟨c23, d23, f23, _⟩ := cell3 (s18.get 5 rfl)
  obtain ⟨c24, d24, f24, _⟩ := cell3 (s18.get 6 rfl)
  have S1024 := hide s18
  clear s18
  go_wp2_with fail
  refine (waiting_any S1024.out 7 (some nb) [] (Cuts.none.set (lo b a) (hi b a) true) rfl).mono ?_
  rintro e w' ⟨rfl, rfl⟩
  go_wp2_with fail
  refine (waiting_any S1024.out 3 (some yb) [⟨a, c, two⟩] ((Cuts.none.set (lo b a) (hi b a) true).set (lo a b) (hi a b) false) rfl).mono ?_
  rintro e w' ⟨rfl, rfl⟩
  go_wp2_with fail
  go_ret
  exact ⟨rfl, (S1024.out).below⟩

set_option maxRecDepth 100000 in
theorem ways_any (a b c : Int) (one two : ByteArray) (w : World) (ha : (Lit.int .i64 a).wf = true) (hb : (Lit.int .i64 b).wf = true) (hc : (Lit.int .i64 c).wf = true) (m1 : one.size ≤ maxLen) (m2 : two.size ≤ maxLen) :
    Calls Try.prog 7 #[.int .i64 a, .int .i64 b, .int .i64 c, .string one, .string two] w fun e w' => e = .returned (.bool true) ∧ Below w.heap.size w w' := by
  unfold maxLen at m1 m2
  by_cases h1 : one.size ≤ 8192
  · by_cases h2 : two.size ≤ 8192
    · by_cases hca : c = a
      · subst hca
        have h1' : ¬ (8192 : Int) < one.size := by omega
        have h2' : ¬ (8192 : Int) < two.size := by omega
        clear ha hb hc m1 m2 h1 h2
        go_enter Try.func7, Try.ntmps7
        go_wp2_with fail
        refine (awake_any w).mono ?_
        rintro e w0 ⟨rfl, hb0⟩
        go_wp2_with fail
        go_ret
        exact ⟨rfl, hb0⟩
      · by_cases hcb : c = b
        · subst hcb
          have h1' : ¬ (8192 : Int) < one.size := by omega
          have h2' : ¬ (8192 : Int) < two.size := by omega
          have e1 : (c == a) = false := by simpa using hca
          clear ha hb hc m1 m2 h1 h2 hca
          go_enter Try.func7, Try.ntmps7
          go_wp2_with fail
          refine (awake_any w).mono ?_
          rintro e w0 ⟨rfl, hb0⟩
          go_wp2_with fail
          go_ret
          exact ⟨rfl, hb0⟩
        · exact ways_ok a b c one two w ha hb hc h1 h2 hca hcb
    · have h1' : ¬ (8192 : Int) < one.size := by omega
      have h2' : (8192 : Int) < two.size := by omega
      clear ha hb hc m1 h1 h2
      go_enter Try.func7, Try.ntmps7
      go_wp2_with fail
      refine (awake_any w).mono ?_
      rintro e w0 ⟨rfl, hb0⟩
      go_wp2_with fail
      go_ret
      exact ⟨rfl, hb0⟩
  · have h1' : (8192 : Int) < one.size := by omega
    clear ha hb hc m2 h1
    go_enter Try.func7, Try.ntmps7
    go_wp2_with fail
    refine (awake_any w).mono ?_
    rintro e w0 ⟨rfl, hb0⟩
    go_wp2_with fail
    go_ret
    exact ⟨rfl, hb0⟩
end Go.Proofs.Ytniiikgkeiomoaa
