/-
  Letters: which are right.
-/
import Derived.Test.YtnljdcghaecdaaaGreatDoorRun
namespace Go.Proofs.YtnljdcghaecdaaaGreatDoor
open Go.RowKit Go.Lib
attribute [local go_sem] Oper.semAt_some

structure Letr where
  kind : Int
  frm : Int
  to : Int
  seq : Nat
  key : ByteArray
  print : Nat
  srv : ByteArray
  mth : ByteArray
  code : Int
  body : ByteArray
abbrev lcells (l : Letr) : List Value := [.int .u8 l.kind, .int .i64 l.frm, .int .i64 l.to, .int .u64 l.seq, .string l.key, .int .u64 l.print, .string l.srv, .string l.mth, .int .i64 l.code, .string l.body]
abbrev lagg (l : Letr) : Value := .agg #[.int .u8 l.kind, .int .i64 l.frm, .int .i64 l.to, .int .u64 l.seq, .string l.key, .int .u64 l.print, .string l.srv, .string l.mth, .int .i64 l.code, .string l.body]
def peerB (n : Int) : Bool := decide (0 ≤ n) && decide (n < 4)
set_option maxRecDepth 100000 in
theorem peer_any (n : Int) (w : World) : Calls Tryz.prog 31 #[.int .i64 n] w fun e w' => e = .returned (.bool (peerB n)) ∧ w' = w := by
  by_cases h : 0 ≤ n
  · have HL : Hid (peerB n = decide (n < 4)) := hide (by unfold peerB; simp [h])
    go_enter Tryz.func31, Tryz.ntmps31
    go_wp2_with fail
    go_ret
    exact ⟨by rw [HL.out]; rfl, rfl⟩
  · have HL : Hid (peerB n = false) := hide (by unfold peerB; simp [h])
    go_enter Tryz.func31, Tryz.ntmps31
    go_wp2_with fail
    go_ret
    exact ⟨by rw [HL.out]; rfl, rfl⟩
theorem size_nil {s : ByteArray} (h : s.toList = []) : s.size = 0 := by
  rw [Go.ByteArray.toList_eq] at h
  have := congrArg List.length h
  simpa using this
/-- What of a right letter serves. -/
structure Right (l : Letr) : Prop where
  kind : l.kind = 1 ∨ l.kind = 2 ∨ l.kind = 3 ∨ l.kind = 4
  frm : 0 ≤ l.frm ∧ l.frm < 4
  to : 0 ≤ l.to ∧ l.to < 4
  key : l.key.size ≤ 64
  body : l.body.size ≤ 4096
  code : 0 ≤ l.code ∧ l.code ≤ 999
  srv : l.srv.size ≤ 32
  mth : l.mth.size ≤ 32
def RightTo (l : Letr) (w : World) (e : Ending) (w' : World) : Prop := ∃ b : Bool, e = .returned (.bool b) ∧ (b = true → Right l) ∧ Turn (fun _ => False) w w'
theorem name_size {s : ByteArray} (h : nameB s = true) : s.size ≤ 32 := by
  unfold nameB at h
  simp only [Bool.and_eq_true, decide_eq_true_eq] at h
  exact h.1.1.1.2
set_option maxRecDepth 100000 in
set_option maxHeartbeats 4000000 in
theorem right_any (l : Letr) (w : World) (hk : Kw w) : Calls Tryz.prog 16 #[lagg l] w (RightTo l w) := by
  obtain ⟨kind, frm, to, seq, key, print, srv, mth, code, body⟩ := l
  have hKw : Hid (∀ W, Turn (fun _ => False) w W → Kw W) := hide (fun W t => hk.turn t (fun _ _ _ h => h))
  obtain ⟨w1, hw1⟩ : ∃ w1, w1 = w.alloc (.cells #[.int .u8 kind, .int .i64 frm, .int .i64 to, .int .u64 seq, .string key, .int .u64 print, .string srv, .string mth, .int .i64 code, .string body] 32) := ⟨_, rfl⟩
  have T1 : Hid (Turn (fun _ => False) w w1) := hide (by rw [hw1]; exact (Turn.refl _ w).alloc _)
  have HW := hide hw1
  have BX : Hid (∀ W, Turn (fun _ => False) w1 W → W.cell? ⟨w.heap.size, 0, none⟩ = some (.int .u8 kind) ∧ W.cell? ⟨w.heap.size, 6, none⟩ = some (.string srv) ∧ W.cell? ⟨w.heap.size, 7, none⟩ = some (.string mth) ∧ W.cell? ⟨w.heap.size, 8, none⟩ = some (.int .i64 code) ∧ W.cell? ⟨w.heap.size, 9, none⟩ = some (.string body)) := hide (fun W t => by
    have h1 : w1.heap[w.heap.size]? = some (.cells #[.int .u8 kind, .int .i64 frm, .int .i64 to, .int .u64 seq, .string key, .int .u64 print, .string srv, .string mth, .int .i64 code, .string body] 32 (0, 0)) := by rw [hw1]; exact heap_alloc_new w _
    have h2 := t.obj h1 (fun h => h)
    simp [World.cell?, h2])
  clear hk hw1
  have P1 : Hid (∀ W, Calls Tryz.prog 31 #[.int .i64 frm] W fun e w' => e = .returned (.bool (peerB frm)) ∧ w' = W) := hide (fun W => peer_any frm W)
  have P2 : Hid (∀ W, Calls Tryz.prog 31 #[.int .i64 to] W fun e w' => e = .returned (.bool (peerB to)) ∧ w' = W) := hide (fun W => peer_any to W)
  go_enter Tryz.func16, Tryz.ntmps16
  go_wp2_with fail
  refine (P1.out _).mono ?_
  rintro e w2 ⟨rfl, rfl⟩
  cases h1 : peerB frm with
  | false =>
    go_wp2_with fail
    rw [← HW.out]
    go_ret
    exact ⟨_, rfl, fun h => (by cases h), T1.out⟩
  | true =>
    go_wp2_with fail
    refine (P2.out _).mono ?_
    rintro e w2 ⟨rfl, rfl⟩
    cases h2 : peerB to with
    | false =>
      go_wp2_with fail
      rw [← HW.out]
      go_ret
      exact ⟨_, rfl, fun h => (by cases h), T1.out⟩
    | true =>
      by_cases h3 : key.size < 1
      · go_wp2_with fail
        rw [← HW.out]
        go_ret
        exact ⟨_, rfl, fun h => (by cases h), T1.out⟩
      · by_cases h4 : 64 < key.size
        · go_wp2_with fail
          rw [← HW.out]
          go_ret
          exact ⟨_, rfl, fun h => (by cases h), T1.out⟩
        · by_cases h5 : 4096 < body.size
          · go_wp2_with fail
            rw [← HW.out]
            go_ret
            exact ⟨_, rfl, fun h => (by cases h), T1.out⟩
          · have hR : Hid ((kind = 1 ∨ kind = 2 ∨ kind = 3 ∨ kind = 4) → srv.size ≤ 32 → mth.size ≤ 32 → 0 ≤ code ∧ code ≤ 999 → Right ⟨kind, frm, to, seq, key, print, srv, mth, code, body⟩) := hide (fun a b c d => ⟨a, by simpa [peerB] using h1, by simpa [peerB] using h2, by show key.size ≤ 64; omega, by show body.size ≤ 4096; omega, d, b, c⟩)
            by_cases k1 : kind = 1 ∨ kind = 3
            · by_cases hc0 : code = 0
              · have HR2 : Hid (nameB srv = true → nameB mth = true → Right ⟨kind, frm, to, seq, key, print, srv, mth, code, body⟩) := hide (fun a b => hR.out (by omega) (name_size a) (name_size b) (by omega))
                subst hc0
                rcases k1 with rfl | rfl
                · go_wp2_with fail
                  rw [← HW.out]
                  refine (name_any srv w1 (hKw.out w1 T1.out)).mono ?_
                  rintro e w2 ⟨rfl, t2⟩
                  obtain ⟨z0, z6, z7, z8, z9⟩ := BX.out w2 t2
                  have T2 := hide (T1.out.trans t2)
                  have T12 := hide t2
                  clear t2
                  cases hn1 : nameB srv with
                  | false =>
                    go_wp2_with fail
                    go_ret
                    exact ⟨_, rfl, fun h => (by cases h), T2.out⟩
                  | true =>
                    go_wp2_with fail
                    refine (name_any mth w2 (hKw.out w2 T2.out)).mono ?_
                    rintro e w3 ⟨rfl, t3⟩
                    clear z0 z6 z7 z8 z9
                    obtain ⟨z0, z6, z7, z8, z9⟩ := BX.out w3 (T12.out.trans t3)
                    have T3 := hide (T2.out.trans t3)
                    clear t3
                    cases hn2 : nameB mth with
                    | false =>
                      go_wp2_with fail
                      go_ret
                      exact ⟨_, rfl, fun h => (by cases h), T3.out⟩
                    | true =>
                      have HN1 := hide hn1
                      have HN2 := hide hn2
                      clear hn1 hn2
                      go_wp2_with fail
                      go_ret
                      exact ⟨_, rfl, fun h => HR2.out HN1.out HN2.out, T3.out⟩
                · go_wp2_with fail
                  rw [← HW.out]
                  refine (name_any srv w1 (hKw.out w1 T1.out)).mono ?_
                  rintro e w2 ⟨rfl, t2⟩
                  obtain ⟨z0, z6, z7, z8, z9⟩ := BX.out w2 t2
                  have T2 := hide (T1.out.trans t2)
                  have T12 := hide t2
                  clear t2
                  cases hn1 : nameB srv with
                  | false =>
                    go_wp2_with fail
                    go_ret
                    exact ⟨_, rfl, fun h => (by cases h), T2.out⟩
                  | true =>
                    go_wp2_with fail
                    refine (name_any mth w2 (hKw.out w2 T2.out)).mono ?_
                    rintro e w3 ⟨rfl, t3⟩
                    clear z0 z6 z7 z8 z9
                    obtain ⟨z0, z6, z7, z8, z9⟩ := BX.out w3 (T12.out.trans t3)
                    have T3 := hide (T2.out.trans t3)
                    clear t3
                    cases hn2 : nameB mth with
                    | false =>
                      go_wp2_with fail
                      go_ret
                      exact ⟨_, rfl, fun h => (by cases h), T3.out⟩
                    | true =>
                      have HN1 := hide hn1
                      have HN2 := hide hn2
                      clear hn1 hn2
                      go_wp2_with fail
                      go_ret
                      exact ⟨_, rfl, fun h => HR2.out HN1.out HN2.out, T3.out⟩
              · have ec : (code == 0) = false := beq_eq_false_iff_ne.2 hc0
                clear hc0
                rcases k1 with rfl | rfl
                · go_wp2_with fail
                  rw [← HW.out]
                  refine (name_any srv w1 (hKw.out w1 T1.out)).mono ?_
                  rintro e w2 ⟨rfl, t2⟩
                  obtain ⟨z0, z6, z7, z8, z9⟩ := BX.out w2 t2
                  have T2 := hide (T1.out.trans t2)
                  have T12 := hide t2
                  clear t2
                  cases hn1 : nameB srv with
                  | false =>
                    go_wp2_with fail
                    go_ret
                    exact ⟨_, rfl, fun h => (by cases h), T2.out⟩
                  | true =>
                    go_wp2_with fail
                    refine (name_any mth w2 (hKw.out w2 T2.out)).mono ?_
                    rintro e w3 ⟨rfl, t3⟩
                    clear z0 z6 z7 z8 z9
                    obtain ⟨z0, z6, z7, z8, z9⟩ := BX.out w3 (T12.out.trans t3)
                    have T3 := hide (T2.out.trans t3)
                    clear t3
                    cases hn2 : nameB mth with
                    | false =>
                      go_wp2_with fail
                      go_ret
                      exact ⟨_, rfl, fun h => (by cases h), T3.out⟩
                    | true =>
                      have HN1 := hide hn1
                      have HN2 := hide hn2
                      clear hn1 hn2
                      go_wp2_with fail
                      go_ret
                      exact ⟨_, rfl, fun h => (by cases h), T3.out⟩
                · go_wp2_with fail
                  rw [← HW.out]
                  refine (name_any srv w1 (hKw.out w1 T1.out)).mono ?_
                  rintro e w2 ⟨rfl, t2⟩
                  obtain ⟨z0, z6, z7, z8, z9⟩ := BX.out w2 t2
                  have T2 := hide (T1.out.trans t2)
                  have T12 := hide t2
                  clear t2
                  cases hn1 : nameB srv with
                  | false =>
                    go_wp2_with fail
                    go_ret
                    exact ⟨_, rfl, fun h => (by cases h), T2.out⟩
                  | true =>
                    go_wp2_with fail
                    refine (name_any mth w2 (hKw.out w2 T2.out)).mono ?_
                    rintro e w3 ⟨rfl, t3⟩
                    clear z0 z6 z7 z8 z9
                    obtain ⟨z0, z6, z7, z8, z9⟩ := BX.out w3 (T12.out.trans t3)
                    have T3 := hide (T2.out.trans t3)
                    clear t3
                    cases hn2 : nameB mth with
                    | false =>
                      go_wp2_with fail
                      go_ret
                      exact ⟨_, rfl, fun h => (by cases h), T3.out⟩
                    | true =>
                      have HN1 := hide hn1
                      have HN2 := hide hn2
                      clear hn1 hn2
                      go_wp2_with fail
                      go_ret
                      exact ⟨_, rfl, fun h => (by cases h), T3.out⟩
            · by_cases k2 : kind = 2 ∨ kind = 4
              · have hke : (kind = 1 ∨ kind = 2 ∨ kind = 3 ∨ kind = 4) := by omega
                by_cases e1 : srv.toList = []
                · by_cases e2 : mth.toList = []
                  · by_cases e3 : 0 ≤ code
                    · have hfin : Hid (code ≤ 999 → Right ⟨kind, frm, to, seq, key, print, srv, mth, code, body⟩) := hide (fun h => hR.out hke (by rw [size_nil e1]; omega) (by rw [size_nil e2]; omega) ⟨e3, h⟩)
                      have f1 : (srv.toList == []) = true := by rw [e1]; rfl
                      have f2 : (mth.toList == []) = true := by rw [e2]; rfl
                      clear e1 e2 hke
                      rcases k2 with rfl | rfl
                      · go_wp2_with fail
                        rw [← HW.out]
                        go_ret
                        exact ⟨_, rfl, fun h => hfin.out (by simpa using h), T1.out⟩
                      · go_wp2_with fail
                        rw [← HW.out]
                        go_ret
                        exact ⟨_, rfl, fun h => hfin.out (by simpa using h), T1.out⟩
                    · have f1 : (srv.toList == []) = true := by rw [e1]; rfl
                      have f2 : (mth.toList == []) = true := by rw [e2]; rfl
                      clear e1 e2 hke
                      rcases k2 with rfl | rfl
                      · go_wp2_with fail
                        rw [← HW.out]
                        go_ret
                        exact ⟨_, rfl, fun h => (by cases h), T1.out⟩
                      · go_wp2_with fail
                        rw [← HW.out]
                        go_ret
                        exact ⟨_, rfl, fun h => (by cases h), T1.out⟩
                  · have f1 : (srv.toList == []) = true := by rw [e1]; rfl
                    have f2 : (mth.toList == []) = false := beq_eq_false_iff_ne.2 e2
                    clear e1 e2 hke
                    rcases k2 with rfl | rfl
                    · go_wp2_with fail
                      rw [← HW.out]
                      go_ret
                      exact ⟨_, rfl, fun h => (by cases h), T1.out⟩
                    · go_wp2_with fail
                      rw [← HW.out]
                      go_ret
                      exact ⟨_, rfl, fun h => (by cases h), T1.out⟩
                · have f1 : (srv.toList == []) = false := beq_eq_false_iff_ne.2 e1
                  clear e1 hke
                  rcases k2 with rfl | rfl
                  · go_wp2_with fail
                    rw [← HW.out]
                    go_ret
                    exact ⟨_, rfl, fun h => (by cases h), T1.out⟩
                  · go_wp2_with fail
                    rw [← HW.out]
                    go_ret
                    exact ⟨_, rfl, fun h => (by cases h), T1.out⟩
              · have n1 : (kind == 1) = false := by simp; omega
                have n2 : (kind == 2) = false := by simp; omega
                have n3 : (kind == 3) = false := by simp; omega
                have n4 : (kind == 4) = false := by simp; omega
                clear k1 k2
                go_wp2_with fail
                rw [← HW.out]
                go_ret
                exact ⟨_, rfl, fun h => (by cases h), T1.out⟩
end Go.Proofs.YtnljdcghaecdaaaGreatDoor
