/-
  A text's tokens, read.
-/
import Derived.Test.YtnljdcghaecdaaaGreatDoorLxs
namespace Go.Proofs.YtnljdcghaecdaaaGreatDoor
open Go.RowKit Go.Lib Go.Maps
attribute [local go_sem] Oper.semAt_some

theorem info97 : (Tryz.prog.info? 97).map (fun i => (i.zero, i.size, i.bytes)) = some (some (.agg #[.int .u8 0, .string ⟨#[]⟩, .int .i64 0, .int .i64 0]), 4, 40) := by kernel_rfl
abbrev krow (B : Nat) (v : Value) (l : List TokD) : Thing := row B 97 4 v l.length (l.flatMap tokc)
theorem Lie.moreK {base : Nat} {w0 w w2 : World} {v v' : Value} {l : List TokD} {y : TokD} {ts : List Thing} {n : Nat} (hn0 : ts[n]? = some (krow base v l)) (h : Lie base w0 w ts) (ho : w2.ownsRow base 97 4 v' (l.length + 1) (l.flatMap tokc ++ tokc y)) (t : Turn (fun k => v.ownBlock = some k) w w2) (hn : Newer w v v') :
    Lie base w0 w2 (ts.set n (krow base v' (l ++ [y]))) :=
  h.step n (t' := krow base v' (l ++ [y])) hn0 t (by show w2.ownsRow base 97 4 v' (l ++ [y]).length ((l ++ [y]).flatMap tokc); rw [List.length_append, List.flatMap_append]; simpa using ho) (fun k hk => hn k hk)
section
set_option maxRecDepth 100000 in
set_option maxHeartbeats 8000000 in
theorem all_any (s : ByteArray) (l : List TokD) (w : World) (hs : s.size ≤ 60000) (hl : l.length ≤ 100000) (hl2 : Toks s 0 l) :
    Calls Tryz.prog 34 #[.string s] w fun e w' => ∃ v, e = .returned (.tuple #[v, .int .i64 0, .int .i64 0]) ∧ Hid (Lie w.heap.size w w' [krow w.heap.size v l]) := by
  obtain ⟨i0, hi0, hz0, hz1, hz2⟩ := info_parts info97
  have HK := hide hl2
  clear hl2
  obtain ⟨w1, r, RB, HW1, HR, HRB, S0⟩ := lay (hide (Lie.start w)) (.cells #[.string s, .int .i64 0] 129)
  rw [HRB.out] at S0
  have HB : Hid (w.heap.size ≤ w1.heap.size) := hide S0.out.base_le
  generalize hB : w.heap.size = B at *
  have S1 : Hid (Lie B w w1 [krow B (.slice none 0 0) [], rbx r s 0]) := hide (S0.out.push (Turn.refl _ _) (World.ownsRow_nil _ _ _ _) (fun k hk => by cases hk))
  go_enter Tryz.func34, Tryz.ntmps34
  go_wp2_with fail
  rw [← HW1.out, ← HR.out]
  go_loopg [2] l.length (fun g v wr => ∃ (d rest : List TokD) (a : Nat), rest.length ≤ g ∧ Hid (l = d ++ rest) ∧ Hid (Toks s a rest) ∧ Hid (Lie B w wr [krow B v d, rbx r s a]))
  case atStart => exact ⟨[], l, 0, by omega, hide rfl, HK, S1⟩
  case round =>
    clear S0 S1 HK
    obtain ⟨d, rest, a, hg, HL, HK, S1⟩ := hrel
    obtain ⟨A, c, rfl⟩ := (Rd.of_own (S1.out.get 0 rfl)).shape
    have hK := HK.out
    cases hK with
    | done k =>
      have hdl : d = l := by have := HL.out; simpa using this.symm
      have CE := hide (next_end (B := B) (w0 := w) (w := wr) (ts := [krow B (.slice A d.length c) d]) (r := r) (s := s) (a := a) s.size (hide k) hs (hide rfl) (hide S1.out.swap))
      have HDL := hide hdl
      clear hdl
      go_wp2_with fail
      refine CE.out.mono ?_
      rintro e w2 ⟨rfl, S2⟩
      go_wp2_with fail
      try simp only [Exit.inBlock, Exit.then]
      refine bodyPost_ret (v := .tuple #[.slice A d.length c, .int .i64 0, .int .i64 0]) (by simp [results, Tryz.results34, go_sem]) rfl ?_
      exact ⟨_, rfl, by rw [← HDL.out]; exact hide ((S2.out.skip _).erase 0)⟩
    | more n m =>
      rename_i q t l'
      have HM := hide m
      have hll : l.length = d.length + (l'.length + 1) := by rw [HL.out, List.length_append]; rfl
      have HLL : Hid (l = (d ++ [t]) ++ l') := hide (by rw [HL.out]; simp)
      have CT := hide (token_any (B := B) (w0 := w) (w := wr) (ts := [krow B (.slice A d.length c) d]) (r := r) n hs (hide S1.out.swap))
      clear HL HK S1
      obtain ⟨dn, hdn⟩ : ∃ dn, dn = d.length := ⟨_, rfl⟩
      rw [← hdn] at hll CT ⊢
      have HDN := hide hdn
      clear hdn
      go_wp2_with fail
      refine CT.out.mono ?_
      rintro e w2 ⟨rfl, S2⟩
      obtain ⟨w3, rk, KB, HW3, HR3, HKB, S3⟩ := lay S2 (.cells (tokc t).toArray 97)
      have S3 := S3.out
      rw [HKB.out] at S3
      have S3 := hide S3
      clear S2 CT
      go_upto_region 5 with (fail)
      rw [show w2.alloc (.cells #[.int .u8 t.kind, .string t.text, .int .i64 t.num, .int .i64 t.pos] 97) = w3 from HW3.out.symm, ← HR3.out]
      obtain ⟨z0, z1, z2, z3⟩ := cell4 (S3.out.get 0 rfl)
      have OWN : Hid (w3.ownsRow B 97 4 (.slice A dn c) dn (d.flatMap tokc)) := hide (by rw [HDN.out]; exact (S3.out.get 2 (by rw [HDN.out]; rfl)))
      have hbb := S3.out.base_le
      go_wp2_with (at_builtin; refine wpList_append1 rfl (.tmp 29) (.tmp 31) 91 rfl B 97 i0 _ 4 40 Tryz.underlying91 hi0 hz0 hz1 hz2 rfl (by decide) (.slice A dn c) dn _ (by simp [Act.eval]) OWN.out (tokc t) (by simp [Act.eval]) rfl (by intro u hu; simp at hu; rcases hu with rfl | rfl | rfl | rfl <;> rfl) (by omega) (by omega) hbb ?_; intro v' w4 ho t2 hnw; have S4 := hide (Lie.moreK (l := d) (y := t) (n := 2) rfl S3.out (by rw [← HDN.out]; exact ho) t2 hnw); clear ho t2 hnw)
      obtain ⟨A', c', rfl⟩ : ∃ A' c', v' = .slice A' (dn + 1) c' := by
        obtain ⟨A', c', e⟩ := (Rd.of_own (S4.out.get 2 rfl)).shape
        exact ⟨A', c', by rw [e, HDN.out, List.length_append]; rfl⟩
      have hg2 : l'.length + 1 ≤ _ := hg
      go_roundg l'.length
      case measure => omega
      case rel => exact ⟨d ++ [t], l', q, Nat.le_refl _, HLL, HM, hide ((S4.out.erase 0).swap)⟩
end
end Go.Proofs.YtnljdcghaecdaaaGreatDoor
