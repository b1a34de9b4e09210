/-
  NetKnown: the walk.
-/
import Derived.Test.YtniiikgkeiomoaaWays
namespace Go.Proofs.Ytniiikgkeiomoaa
open Go.RowKit Go.Maps

abbrev pa : Pk := ⟨1, 2, ⟨#[97]⟩⟩
abbrev pb : Pk := ⟨1, 2, ⟨#[98]⟩⟩
abbrev pc : Pk := ⟨1, 2, ⟨#[99]⟩⟩
theorem pa_ok : pa.ok := ⟨by decide, by decide⟩
theorem pb_ok : pb.ok := ⟨by decide, by decide⟩
theorem pc_ok : pc.ok := ⟨by decide, by decide⟩

set_option maxRecDepth 100000 in
set_option maxHeartbeats 8000000 in
theorem known_ok (w : World) : Calls Try.prog 8 #[] w fun e w' => e = .returned (.bool true) ∧ Below w.heap.size w w' := by
  have eqa := fun w => run_neq_pk_self pa w
  have eqb := fun w => run_neq_pk_self pb w
  have eqc := fun w => run_neq_pk_self pc w
  go_enter Try.func8, Try.ntmps8
  go_wp2_with fail
  have s0 := (((Lie.start w).alloc (.cells #[.int .i64 1, .int .i64 2, .string ⟨#[97]⟩] 25)).alloc (.cells #[.int .i64 1, .int .i64 2, .string ⟨#[98]⟩] 25)).alloc (.cells #[.int .i64 1, .int .i64 2, .string ⟨#[99]⟩] 25)
  simp only [World.size_alloc] at s0
  refine (new_any s0).mono ?_
  rintro e w102 ⟨rfl, s⟩
  generalize (((w.alloc (.cells #[.int .i64 1, .int .i64 2, .string ⟨#[97]⟩] 25)).alloc (.cells #[.int .i64 1, .int .i64 2, .string ⟨#[98]⟩] 25)).alloc (.cells #[.int .i64 1, .int .i64 2, .string ⟨#[99]⟩] 25)).heap.size + 1 = nb at s ⊢
  unfold ptr
  have s2 : Lie w.heap.size w w102 [net w.heap.size (some nb) [] Cuts.none, pbox (w.heap.size + 1 + 1) pc, pbox (w.heap.size + 1) pb, pbox w.heap.size pa] := s
  clear s
  obtain ⟨c3, d3, f3, _⟩ := cell3 (s2.get 3 rfl)
  have S1003 := hide s2
  clear s2
  go_wp2_with fail
  refine (send_any S1003.out 0 (some nb) [] Cuts.none rfl pa pa_ok).mono ?_
  rintro e w104 ⟨rfl, s⟩
  have s4 : Lie w.heap.size w w104 [net w.heap.size (some nb) [pa] Cuts.none, pbox (w.heap.size + 1 + 1) pc, pbox (w.heap.size + 1) pb, pbox w.heap.size pa] := s
  clear s
  rw [show sendOk (some nb) [] pa = true from rfl]
  obtain ⟨c5, d5, f5, _⟩ := cell3 (s4.get 2 rfl)
  have S1005 := hide s4
  clear s4
  go_wp2_with fail
  refine (send_any S1005.out 0 (some nb) [pa] Cuts.none rfl pb pb_ok).mono ?_
  rintro e w106 ⟨rfl, s⟩
  have s6 : Lie w.heap.size w w106 [net w.heap.size (some nb) [pa, pb] Cuts.none, pbox (w.heap.size + 1 + 1) pc, pbox (w.heap.size + 1) pb, pbox w.heap.size pa] := s
  clear s
  rw [show sendOk (some nb) [pa] pb = true from rfl]
  obtain ⟨c7, d7, f7, _⟩ := cell3 (s6.get 1 rfl)
  have S1007 := hide s6
  clear s6
  go_wp2_with fail
  refine (send_any S1007.out 0 (some nb) [pa, pb] Cuts.none rfl pc pc_ok).mono ?_
  rintro e w108 ⟨rfl, s⟩
  have s8 : Lie w.heap.size w w108 [net w.heap.size (some nb) [pa, pb, pc] Cuts.none, pbox (w.heap.size + 1 + 1) pc, pbox (w.heap.size + 1) pb, pbox w.heap.size pa] := s
  clear s
  rw [show sendOk (some nb) [pa, pb] pc = true from rfl]
  have S1008 := hide s8
  clear s8
  go_wp2_with fail
  refine (come_any (by exact S1008.out) 0 (some nb) [pa, pb, pc] Cuts.none rfl (-1) (by simp)).mono ?_
  rintro e w109 ⟨rfl, s⟩
  have s9 : Lie w.heap.size w w109 [net w.heap.size (some nb) [pa, pb] Cuts.none, pbox (w.heap.size + 1 + 1) pc, pbox (w.heap.size + 1) pb, pbox w.heap.size pa] := s
  clear s
  rw [show comeOf Cuts.none [pa, pb, pc] (-1) = some pc from rfl, told_some]
  have s := s9.alloc (.cells #[.int .i64 1, .int .i64 2, .string ⟨#[99]⟩] 25)
  clear s9
  have s9 : Lie w.heap.size w _ [pbox w109.heap.size pc, net w.heap.size (some nb) [pa, pb] Cuts.none, pbox (w.heap.size + 1 + 1) pc, pbox (w.heap.size + 1) pb, pbox w.heap.size pa] := s
  clear s
  obtain ⟨c10, d10, f10, _⟩ := cell3 (s9.get 0 rfl)
  obtain ⟨c11, d11, f11, _⟩ := cell3 (s9.get 2 rfl)
  have S1011 := hide s9
  clear s9
  go_wp2_with fail
  have s := (S1011.out).pop
  have SQ := hide s
  clear s
  refine (dup_any SQ.out 0 (some nb) [pa, pb] Cuts.none rfl 0 (by simp)).mono ?_
  rintro e w112 ⟨rfl, s⟩
  have s12 : Lie w.heap.size w w112 [net w.heap.size (some nb) [pa, pb, pa] Cuts.none, pbox (w.heap.size + 1 + 1) pc, pbox (w.heap.size + 1) pb, pbox w.heap.size pa] := s
  clear s
  rw [show dupOk [pa, pb] = true from rfl]
  have S1012 := hide s12
  clear s12
  go_wp2_with fail
  refine (waiting_any S1012.out 0 (some nb) [pa, pb, pa] Cuts.none rfl).mono ?_
  rintro e w' ⟨rfl, rfl⟩
  go_wp2_with fail
  refine (come_any (by exact S1012.out) 0 (some nb) [pa, pb, pa] Cuts.none rfl (0) (by simp)).mono ?_
  rintro e w113 ⟨rfl, s⟩
  have s13 : Lie w.heap.size w w113 [net w.heap.size (some nb) [pb, pa] Cuts.none, pbox (w.heap.size + 1 + 1) pc, pbox (w.heap.size + 1) pb, pbox w.heap.size pa] := s
  clear s
  rw [show comeOf Cuts.none [pa, pb, pa] (0) = some pa from rfl, told_some]
  have s := s13.alloc (.cells #[.int .i64 1, .int .i64 2, .string ⟨#[97]⟩] 25)
  clear s13
  have s13 : Lie w.heap.size w _ [pbox w113.heap.size pa, net w.heap.size (some nb) [pb, pa] Cuts.none, pbox (w.heap.size + 1 + 1) pc, pbox (w.heap.size + 1) pb, pbox w.heap.size pa] := s
  clear s
  have S1013 := hide s13
  clear s13
  go_wp2_with fail
  refine (come_any (by exact S1013.out) 1 (some nb) [pb, pa] Cuts.none rfl (3) (by simp)).mono ?_
  rintro e w114 ⟨rfl, s⟩
  have s14 : Lie w.heap.size w w114 [pbox w113.heap.size pa, net w.heap.size (some nb) [pb] Cuts.none, pbox (w.heap.size + 1 + 1) pc, pbox (w.heap.size + 1) pb, pbox w.heap.size pa] := s
  clear s
  rw [show comeOf Cuts.none [pb, pa] (3) = some pa from rfl, told_some]
  have s := s14.alloc (.cells #[.int .i64 1, .int .i64 2, .string ⟨#[97]⟩] 25)
  clear s14
  have s14 : Lie w.heap.size w _ [pbox w114.heap.size pa, pbox w113.heap.size pa, net w.heap.size (some nb) [pb] Cuts.none, pbox (w.heap.size + 1 + 1) pc, pbox (w.heap.size + 1) pb, pbox w.heap.size pa] := s
  clear s
  have S1014 := hide s14
  clear s14
  go_wp2_with fail
  refine (come_any (by exact S1014.out) 2 (some nb) [pb] Cuts.none rfl (0) (by simp)).mono ?_
  rintro e w115 ⟨rfl, s⟩
  have s15 : Lie w.heap.size w w115 [pbox w114.heap.size pa, pbox w113.heap.size pa, net w.heap.size (some nb) [] Cuts.none, pbox (w.heap.size + 1 + 1) pc, pbox (w.heap.size + 1) pb, pbox w.heap.size pa] := s
  clear s
  rw [show comeOf Cuts.none [pb] (0) = some pb from rfl, told_some]
  have s := s15.alloc (.cells #[.int .i64 1, .int .i64 2, .string ⟨#[98]⟩] 25)
  clear s15
  have s15 : Lie w.heap.size w _ [pbox w115.heap.size pb, pbox w114.heap.size pa, pbox w113.heap.size pa, net w.heap.size (some nb) [] Cuts.none, pbox (w.heap.size + 1 + 1) pc, pbox (w.heap.size + 1) pb, pbox w.heap.size pa] := s
  clear s
  obtain ⟨c16, d16, f16, _⟩ := cell3 (s15.get 0 rfl)
  obtain ⟨c17, d17, f17, _⟩ := cell3 (s15.get 1 rfl)
  obtain ⟨c18, d18, f18, _⟩ := cell3 (s15.get 2 rfl)
  obtain ⟨c19, d19, f19, _⟩ := cell3 (s15.get 5 rfl)
  obtain ⟨c20, d20, f20, _⟩ := cell3 (s15.get 6 rfl)
  have S1020 := hide s15
  clear s15
  go_wp2_with fail
  refine (lose_any S1020.out 3 (some nb) [] Cuts.none rfl 0 (by simp)).mono ?_
  rintro e w121 ⟨rfl, s⟩
  have s21 : Lie w.heap.size w w121 [pbox w115.heap.size pb, pbox w114.heap.size pa, pbox w113.heap.size pa, net w.heap.size (some nb) [] Cuts.none, pbox (w.heap.size + 1 + 1) pc, pbox (w.heap.size + 1) pb, pbox w.heap.size pa] := s
  clear s
  rw [show (!([] : List Pk).isEmpty) = false from rfl]
  have S1021 := hide s21
  clear s21
  go_wp2_with fail
  have s := (((S1021.out).pop.pop.pop).pop).pop
  have SR := hide s
  clear s
  refine (new_any SR.out).mono ?_
  rintro e w122 ⟨rfl, s⟩
  generalize w121.heap.size + 1 = mb at *
  unfold ptr
  have s22 : Lie w.heap.size w w122 [net w.heap.size (some mb) [] Cuts.none, pbox (w.heap.size + 1) pb, pbox w.heap.size pa] := s
  clear s
  have S1022 := hide s22
  clear s22
  go_wp2_with fail
  refine (cut_any (by exact S1022.out) 0 (some mb) [] Cuts.none rfl 2 1 true (by unfold maxLen; simp [Cuts.set, Cuts.none]) (by decide) (by decide)).mono ?_
  rintro e w123 ⟨rfl, s⟩
  have s23 : Lie w.heap.size w w123 [net w.heap.size (some mb) [] (Cuts.none.set 1 2 true), pbox (w.heap.size + 1) pb, pbox w.heap.size pa] := s
  clear s
  obtain ⟨c24, d24, f24, _⟩ := cell3 (s23.get 2 rfl)
  have S1024 := hide s23
  clear s23
  go_wp2_with fail
  refine (send_any S1024.out 0 (some mb) [] (Cuts.none.set 1 2 true) rfl pa pa_ok).mono ?_
  rintro e w125 ⟨rfl, s⟩
  have s25 : Lie w.heap.size w w125 [net w.heap.size (some mb) [] (Cuts.none.set 1 2 true), pbox (w.heap.size + 1) pb, pbox w.heap.size pa] := s
  clear s
  rw [show sendOk (some mb) [] pa = true from rfl]
  have S1025 := hide s25
  clear s25
  go_wp2_with fail
  refine (waiting_any S1025.out 0 (some mb) [] (Cuts.none.set 1 2 true) rfl).mono ?_
  rintro e w' ⟨rfl, rfl⟩
  go_wp2_with fail
  refine (cut_any (by exact S1025.out) 0 (some mb) [] (Cuts.none.set 1 2 true) rfl 1 2 false (by unfold maxLen; simp [Cuts.set, Cuts.none]) (by decide) (by decide)).mono ?_
  rintro e w126 ⟨rfl, s⟩
  have s26 : Lie w.heap.size w w126 [net w.heap.size (some mb) [] ((Cuts.none.set 1 2 true).set 1 2 false), pbox (w.heap.size + 1) pb, pbox w.heap.size pa] := s
  clear s
  obtain ⟨c27, d27, f27, _⟩ := cell3 (s26.get 1 rfl)
  have S1027 := hide s26
  clear s26
  go_wp2_with fail
  refine (send_any S1027.out 0 (some mb) [] ((Cuts.none.set 1 2 true).set 1 2 false) rfl pb pb_ok).mono ?_
  rintro e w128 ⟨rfl, s⟩
  have s28 : Lie w.heap.size w w128 [net w.heap.size (some mb) [pb] ((Cuts.none.set 1 2 true).set 1 2 false), pbox (w.heap.size + 1) pb, pbox w.heap.size pa] := s
  clear s
  rw [show sendOk (some mb) [] pb = true from rfl]
  have S1028 := hide s28
  clear s28
  go_wp2_with fail
  refine (cut_any (by exact S1028.out) 0 (some mb) [pb] ((Cuts.none.set 1 2 true).set 1 2 false) rfl 1 2 true (by unfold maxLen; simp [Cuts.set, Cuts.none]) (by decide) (by decide)).mono ?_
  rintro e w129 ⟨rfl, s⟩
  have s29 : Lie w.heap.size w w129 [net w.heap.size (some mb) [pb] (((Cuts.none.set 1 2 true).set 1 2 false).set 1 2 true), pbox (w.heap.size + 1) pb, pbox w.heap.size pa] := s
  clear s
  have S1029 := hide s29
  clear s29
  go_wp2_with fail
  refine (come_any (by exact S1029.out) 0 (some mb) [pb] (((Cuts.none.set 1 2 true).set 1 2 false).set 1 2 true) rfl (0) (by simp)).mono ?_
  rintro e w130 ⟨rfl, s⟩
  have s30 : Lie w.heap.size w w130 [net w.heap.size (some mb) [] (((Cuts.none.set 1 2 true).set 1 2 false).set 1 2 true), pbox (w.heap.size + 1) pb, pbox w.heap.size pa] := s
  clear s
  rw [show comeOf (((Cuts.none.set 1 2 true).set 1 2 false).set 1 2 true) [pb] (0) = none from rfl, told_none]
  have S1030 := hide s30
  clear s30
  go_wp2_with fail
  have s : Lie w.heap.size w _ (net w.heap.size none [] Cuts.none :: [net w.heap.size (some mb) [] (((Cuts.none.set 1 2 true).set 1 2 false).set 1 2 true), pbox (w.heap.size + 1) pb, pbox w.heap.size pa]) := ((S1030.out).skip (.cells #[.int .i64 0, .int .i64 0, .string ⟨#[]⟩] 25)).push (Turn.refl _ _) rfl (fun k hk => hk.elim)
  have SN := hide s
  clear s
  refine (cut_any (by exact SN.out) 0 none [] Cuts.none rfl 1 2 true (by unfold maxLen; simp [Cuts.set, Cuts.none]) (by decide) (by decide)).mono ?_
  rintro e w131 ⟨rfl, s⟩
  have s31 : Lie w.heap.size w w131 [net w.heap.size none [] Cuts.none, net w.heap.size (some mb) [] (((Cuts.none.set 1 2 true).set 1 2 false).set 1 2 true), pbox (w.heap.size + 1) pb, pbox w.heap.size pa] := s
  clear s
  have S1031 := hide s31
  clear s31
  go_wp2_with fail
  refine (come_any (by exact S1031.out) 0 none [] Cuts.none rfl (0) (by simp)).mono ?_
  rintro e w132 ⟨rfl, s⟩
  have s32 : Lie w.heap.size w w132 [net w.heap.size none [] Cuts.none, net w.heap.size (some mb) [] (((Cuts.none.set 1 2 true).set 1 2 false).set 1 2 true), pbox (w.heap.size + 1) pb, pbox w.heap.size pa] := s
  clear s
  rw [show comeOf Cuts.none [] (0) = none from rfl, told_none]
  have S1032 := hide s32
  clear s32
  go_wp2_with fail
  refine (awake_any _).mono ?_
  rintro e wa ⟨rfl, hba⟩
  have s := ((S1032.out).skip (.cells #[.int .i64 0, .int .i64 0, .string ⟨#[]⟩] 25)).of_below hba
  obtain ⟨c33, d33, f33, _⟩ := cell3 (s.get 3 rfl)
  have SA := hide s
  clear s hba
  go_wp2_with fail
  refine (waiting_any SA.out 1 (some mb) [] (((Cuts.none.set 1 2 true).set 1 2 false).set 1 2 true) rfl).mono ?_
  rintro e w' ⟨rfl, rfl⟩
  go_wp2_with fail
  refine (send_any SA.out 0 none [] Cuts.none rfl pa pa_ok).mono ?_
  rintro e w134 ⟨rfl, s⟩
  have s34 : Lie w.heap.size w w134 [net w.heap.size none [] Cuts.none, net w.heap.size (some mb) [] (((Cuts.none.set 1 2 true).set 1 2 false).set 1 2 true), pbox (w.heap.size + 1) pb, pbox w.heap.size pa] := s
  clear s
  rw [show sendOk none [] pa = false from rfl]
  have S1034 := hide s34
  clear s34
  go_wp2_with fail
  refine (lose_any S1034.out 0 none [] Cuts.none rfl 0 (by simp)).mono ?_
  rintro e w135 ⟨rfl, s⟩
  have s35 : Lie w.heap.size w w135 [net w.heap.size none [] Cuts.none, net w.heap.size (some mb) [] (((Cuts.none.set 1 2 true).set 1 2 false).set 1 2 true), pbox (w.heap.size + 1) pb, pbox w.heap.size pa] := s
  clear s
  rw [show (!([] : List Pk).isEmpty) = false from rfl]
  have S1035 := hide s35
  clear s35
  go_wp2_with fail
  refine (dup_any S1035.out 0 none [] Cuts.none rfl 0 (by simp)).mono ?_
  rintro e w136 ⟨rfl, s⟩
  have s36 : Lie w.heap.size w w136 [net w.heap.size none [] Cuts.none, net w.heap.size (some mb) [] (((Cuts.none.set 1 2 true).set 1 2 false).set 1 2 true), pbox (w.heap.size + 1) pb, pbox w.heap.size pa] := s
  clear s
  rw [show dupOk [] = false from rfl]
  have S1036 := hide s36
  clear s36
  go_wp2_with fail
  refine (waiting_any S1036.out 0 none [] Cuts.none rfl).mono ?_
  rintro e w' ⟨rfl, rfl⟩
  go_wp2_with fail
  refine (twin_nil _).mono ?_
  rintro e w' ⟨rfl, rfl⟩
  go_wp2_with fail
  go_ret
  exact ⟨rfl, (S1036.out).below⟩
end Go.Proofs.Ytniiikgkeiomoaa
