/-
  The document's net: Come, Cut.
-/
import Derived.Test.YtniiikgkeiomoaaDoc3
namespace Go.Proofs.Ytniiikgkeiomoaa
open Go.RowKit Go.Maps

section
variable {base : Nat} {w0 w : World} {ts : List Thing} {dn : Nat} {v1 v2 : Value} {ps : List Pk} {ws : List (Int × Int)}
abbrev zbox (b : Nat) : Thing := box b (.cells #[.int .i64 0, .int .i64 0, .string ⟨#[]⟩] 25 (0, 0))
set_option maxRecDepth 100000 in
theorem dcome_empty (h : Lie base w0 w (docT base dn v1 v2 [] ws ts)) (i : Int) : Calls Try.prog 23 #[.pointer (some ⟨dn, 0, none⟩), .int .i64 i] w (DocTells (told none) base w0 dn [] ws ts) := by
  obtain ⟨A, c, rfl⟩ := (Rd.of_own (h.get 1 rfl)).shape
  obtain ⟨W, hW⟩ : ∃ W, W = w.alloc (.cells #[.int .i64 0, .int .i64 0, .string ⟨#[]⟩] 25) := ⟨_, rfl⟩
  have sW : Lie base w0 W (docT base dn (.slice A ([] : List Pk).length c) v2 [] ws (zbox w.heap.size :: ts)) := by rw [hW]; exact doc_alloc h _
  have h1 : W.heap[dn]? = some (.cells #[.slice A ([] : List Pk).length c, v2] 61 (0, 0)) := sW.get 0 rfl
  have c0 := (cell2 h1).1
  rw [show ([] : List Pk).length = 0 from rfl] at c0
  obtain ⟨z0, z1, z2, z3, z4, z5⟩ := cell3 (sW.get 3 rfl)
  have SW := hide sW
  have HW := hide hW
  clear h h1 sW
  rw [hW] at c0 z0 z1 z2 z3 z4 z5
  clear hW
  go_enter Try.func23, Try.ntmps23
  go_wp2_with fail
  clear c0 z0 z1 z2 z3 z4 z5
  rw [← HW.out]
  obtain ⟨y0, y1, y2, _⟩ := cell3 (SW.out.get 3 rfl)
  exact bodyPost_ret (v := .tuple #[zeroPk, .bool false]) (by simp [results, Try.results23, go_sem, y0, y1, y2]) rfl ⟨rfl, _, _, SW.out.erase 3⟩

def dtold (ws : List (Int × Int)) (p : Pk) : Option Pk := if isCut ws p.from_ p.to_ = true then none else some p
set_option maxRecDepth 100000 in
set_option maxHeartbeats 2000000 in
theorem dcome (h : Lie base w0 w (docT base dn v1 v2 ps ws ts)) (i : Int) (hp : 0 < ps.length) (hm : ps.length ≤ 1000000) (hmw : ws.length ≤ 1000000) (hi : (Lit.int .i64 i).wf = true) (j : Nat) (hj : j = at_ i ps.length) (hjl : j < ps.length) :
    Calls Try.prog 23 #[.pointer (some ⟨dn, 0, none⟩), .int .i64 i] w (DocTells (told (dtold ws ps[j])) base w0 dn (ps.eraseIdx j) ws ts) := by
  have own0 : w.ownsRow base 25 3 v1 ps.length (ps.flatMap pkCells) := h.get 1 rfl
  obtain ⟨g, cap, rfl, hbg, hgl⟩ := own0.form hp
  obtain ⟨W, hW⟩ : ∃ W, W = w.alloc (.cells #[.int .i64 0, .int .i64 0, .string ⟨#[]⟩] 25) := ⟨_, rfl⟩
  have sW : Lie base w0 W (docT base dn (.slice (some ⟨g, 0, none⟩) ps.length cap) v2 ps ws (zbox w.heap.size :: ts)) := by rw [hW]; exact doc_alloc h _
  have h1 : W.heap[dn]? = some (.cells #[.slice (some ⟨g, 0, none⟩) ps.length cap, v2] 61 (0, 0)) := sW.get 0 rfl
  have c0 := (cell2 h1).1
  obtain ⟨b, o, hbo, hbl, q0, q1, q2⟩ := rd_pk (Rd.of_own (sW.get 1 rfl)) j hjl
  injection hbo with hbo
  injection hbo with e1 e2
  subst e1 e2
  rw [Nat.zero_add] at q0 q1 q2
  obtain ⟨P, hP⟩ : ∃ P, P = ps[j] := ⟨_, rfl⟩
  rw [← hP] at q0 q1 q2 ⊢
  have hne : ((ps.length : Int) == 0) = false := beq_eq_false_iff_ne.2 (by omega)
  have hki : (j : Int) < (ps.length : Int) := by omega
  have hszW : W.heap.size = w.heap.size + 1 := by rw [hW]; simp
  have SW := hide sW
  have HW := hide hW
  have HP := hide (fun w' => (dplace i ps.length w' hp hm hi))
  rw [← hj] at HP
  clear h h1 sW own0 hi hj hP
  rw [hW] at c0
  clear hW
  go_enter Try.func23, Try.ntmps23
  go_wp2_with fail
  rw [← HW.out]
  rw [← HW.out] at c0
  refine (HP.out _).mono ?_
  rintro e w' ⟨rfl, rfl⟩
  go_wp2_with fail
  have sV : Lie base w0 (W.alloc (.cells #[.int .i64 P.from_, .int .i64 P.to_, .string P.data] 25)) (docT base dn (.slice (some ⟨g, 0, none⟩) ps.length cap) v2 ps ws (pbox W.heap.size P :: zbox w.heap.size :: ts)) := doc_alloc SW.out _
  rw [hszW] at sV
  refine (dwithout sV j hjl hm).mono ?_
  rintro e w2 ⟨rfl, v1', v2', s2⟩
  obtain ⟨f0, f1, f2, _⟩ := cell3 (s2.get 3 rfl)
  have S2 := hide s2
  clear s2 sV c0 q0 q1 q2
  go_wp2_with fail
  refine (dis S2.out P.from_ P.to_ hmw).mono ?_
  rintro e w3 ⟨rfl, v1'', v2'', s3⟩
  obtain ⟨f0, f1, f2, _⟩ := cell3 (s3.get 3 rfl)
  obtain ⟨z0, z1, z2, z3, z4, z5⟩ := cell3 (s3.get 4 rfl)
  have S3 := hide s3
  clear s3 hszW
  by_cases hc : isCut ws P.from_ P.to_ = true
  · have e1 : dtold ws P = none := by unfold dtold; rw [if_pos hc]
    rw [hc]
    have E1 := hide e1
    clear hc e1
    go_wp2_with fail
    clear z0 z1 z2 z3 z4 z5 f0 f1 f2
    have fin := ((S3.out.setBox 4 rfl 0 (.int .i64 0)).setBox 4 rfl 1 (.int .i64 0)).setBox 4 rfl 2 (.string ⟨#[]⟩)
    generalize ((w3.setCell ⟨w.heap.size, 0, none⟩ (.int .i64 0)).setCell ⟨w.heap.size, 1, none⟩ (.int .i64 0)).setCell ⟨w.heap.size, 2, none⟩ (.string ⟨#[]⟩) = Y at *
    obtain ⟨y0, y1, y2, _⟩ := cell3 (fin.get 4 rfl)
    exact bodyPost_ret (v := .tuple #[zeroPk, .bool false]) (by simp [results, Try.results23, go_sem, y0, y1, y2]) rfl ⟨by rw [E1.out]; rfl, _, _, (fin.erase 4).erase 3⟩
  · have e1 : dtold ws P = some P := by unfold dtold; rw [if_neg hc]
    have hcf : isCut ws P.from_ P.to_ = false := by simpa using hc
    rw [hcf]
    have E1 := hide e1
    clear hc hcf e1
    go_wp2_with fail
    clear z0 z1 z2 z3 z4 z5 f0 f1 f2
    have fin := ((S3.out.setBox 4 rfl 0 (.int .i64 P.from_)).setBox 4 rfl 1 (.int .i64 P.to_)).setBox 4 rfl 2 (.string P.data)
    generalize ((w3.setCell ⟨w.heap.size, 0, none⟩ (.int .i64 P.from_)).setCell ⟨w.heap.size, 1, none⟩ (.int .i64 P.to_)).setCell ⟨w.heap.size, 2, none⟩ (.string P.data) = Y at *
    obtain ⟨y0, y1, y2, _⟩ := cell3 (fin.get 4 rfl)
    exact bodyPost_ret (v := .tuple #[P.v, .bool true]) (by simp [results, Try.results23, go_sem, y0, y1, y2]) rfl ⟨by rw [E1.out]; rfl, _, _, (fin.erase 4).erase 3⟩
end
end Go.Proofs.Ytniiikgkeiomoaa
