/-
  Letters: their bytes.
-/
import Derived.Test.YtnljdcghaecdaaaGreatDoorEnv
import Derived.Deep.RegionHeld3
import Derived.Laws.BytesArg
import Derived.Laws.IdiomStrings
namespace Go.Proofs.YtnljdcghaecdaaaGreatDoor
open Go.RowKit Go.Lib
attribute [local go_sem] Oper.semAt_some

def crc (s : ByteArray) : Int := more 0 s
theorem crc_in (s : ByteArray) : 0 ≤ crc s ∧ crc s < 4294967296 := by
  unfold crc more
  exact u32_in _ _ _
set_option maxRecDepth 100000 in
theorem crc_any (s : ByteArray) (w : World) (hs : s.size ≤ 1000000) : Calls Tryz.prog 21 #[.string s] w fun e w' => e = .returned (.int .u32 (crc s)) ∧ Turn (fun _ => False) w w' := by
  have HC := hide (more_any 0 s w hs)
  go_enter Tryz.func21, Tryz.ntmps21
  go_wp2_with fail
  refine HC.out.mono ?_
  rintro e w1 ⟨rfl, t1⟩
  have T1 := hide t1
  clear t1
  go_wp2_with fail
  go_ret
  exact ⟨rfl, T1.out⟩
/-- The bytes as a text. -/
theorem conv_any (v : Value) (xs : List Int) (w : World) (h : Rd w 1 v xs.length (xs.flatMap bc)) : (convert 52 9 v).run Tryz.prog w = .ok (.string (strOfNums xs)) w := by
  obtain ⟨Y, cy, rfl⟩ := h.shape
  by_cases h0 : 0 < xs.length
  · obtain ⟨b, o, rfl, hb, hc⟩ := h.cells h0
    refine run_convert_bytes_arg w 52 5 Tryz.underlying52 Tryz.underlying5 b o xs.length cy xs rfl (fun i hi => ?_) 9 Tryz.underlying9
    have h1 := hc (i * 1 + 0) (.int .u8 xs[i]) (by rw [flat_at bc_len xs i 0 hi (by omega)]; rfl)
    simpa [hi] using h1
  · obtain rfl : xs = [] := List.eq_nil_of_length_eq_zero (by omega)
    cases Y with
    | none => exact run_convert_bytes_nil w 52 5 Tryz.underlying52 Tryz.underlying5 _ _ 9 Tryz.underlying9
    | some a => exact run_convert_bytes_back w 52 9 5 a cy [] Tryz.underlying52 Tryz.underlying5 Tryz.underlying9 (fun j hj => by simp at hj)
def txtB (s : ByteArray) : List Int := varB s.size ++ bytes s
def headB (l : Letr) : List Int := [l.kind, l.frm % 256, l.to % 256] ++ varB l.seq ++ txtB l.key ++ bigB l.print 8 8 ++ txtB l.srv ++ txtB l.mth ++ varB l.code.toNat ++ txtB l.body
def packB (l : Letr) : List Int := headB l ++ litB (crc (strOfNums (headB l))).toNat 4
abbrev lbx (r : Nat) (l : Letr) : Thing := box r (.cells #[.int .u8 l.kind, .int .i64 l.frm, .int .i64 l.to, .int .u64 l.seq, .string l.key, .int .u64 l.print, .string l.srv, .string l.mth, .int .i64 l.code, .string l.body] 32 (0, 0))
theorem lcell {w : World} {r : Nat} {l : Letr} (h : (lbx r l).is w) : w.cell? ⟨r, 0, none⟩ = some (.int .u8 l.kind) ∧ w.cell? ⟨r, 1, none⟩ = some (.int .i64 l.frm) ∧ w.cell? ⟨r, 2, none⟩ = some (.int .i64 l.to) ∧ w.cell? ⟨r, 3, none⟩ = some (.int .u64 l.seq) ∧ w.cell? ⟨r, 4, none⟩ = some (.string l.key) ∧ w.cell? ⟨r, 5, none⟩ = some (.int .u64 l.print) ∧ w.cell? ⟨r, 6, none⟩ = some (.string l.srv) ∧ w.cell? ⟨r, 7, none⟩ = some (.string l.mth) ∧ w.cell? ⟨r, 8, none⟩ = some (.int .i64 l.code) ∧ w.cell? ⟨r, 9, none⟩ = some (.string l.body) := by
  have h : w.heap[r]? = _ := h
  simp [World.cell?, h]
theorem sized {s : ByteArray} (h : s.size ≤ 10000) : (txtB s).length ≤ 10010 := by
  unfold txtB
  rw [List.length_append, bytes_len]
  have := varB_ten s.size (by omega)
  omega
def PackTo (l : Letr) (w : World) (e : Ending) (w' : World) : Prop := (e = .returned (.tuple #[.string ⟨#[]⟩, .int .i64 1]) ∨ (Right l ∧ e = .returned (.tuple #[.string (strOfNums (packB l)), .int .i64 0]))) ∧ Turn (fun _ => False) w w'
set_option maxRecDepth 100000 in
set_option maxHeartbeats 8000000 in
theorem pack_any (l : Letr) (w : World) (hk : Kw w) (hq : l.seq < 18446744073709551616) (hp : l.print < 18446744073709551616) : Calls Tryz.prog 9 #[lagg l] w (PackTo l w) := by
  obtain ⟨i0, hi0, hz0, hz1, hz2⟩ := info_parts info5
  obtain ⟨r, hr⟩ : ∃ r, r = w.heap.size := ⟨_, rfl⟩
  obtain ⟨w1, hw1⟩ : ∃ w1, w1 = w.alloc (.cells #[.int .u8 l.kind, .int .i64 l.frm, .int .i64 l.to, .int .u64 l.seq, .string l.key, .int .u64 l.print, .string l.srv, .string l.mth, .int .i64 l.code, .string l.body] 32) := ⟨_, rfl⟩
  have S1 : Hid (Lie w.heap.size w w1 [lbx r l]) := hide (by rw [hw1, hr]; exact (Lie.start w).alloc _)
  have HW := hide hw1
  have HR := hide hr
  have CR := hide (right_any l w1 (hk.turn (by rw [hw1]; exact (Turn.refl (fun _ => False) w).alloc _) (fun _ _ _ h => h)))
  clear hk hw1 hr
  go_enter Tryz.func9, Tryz.ntmps9
  go_wp2_with fail
  rw [← HW.out, ← HR.out]
  refine CR.out.mono ?_
  rintro e w2 ⟨g, rfl, hg, t2⟩
  have S2 := hide (S1.out.stay t2)
  clear CR t2 S1
  cases g with
  | false =>
    clear hg
    go_wp2_with fail
    go_ret2
    exact ⟨.inl rfl, Turn.of_below S2.out.below⟩
  | true =>
    have R := hide (hg rfl)
    obtain ⟨z0, z1, z2, z3, z4, z5, z6, z7, z8, z9⟩ := lcell (S2.out.get 0 rfl)
    clear hg
    obtain ⟨cn, hcn⟩ := Int.eq_ofNat_of_zero_le R.out.code.1
    have HCN := hide hcn
    have hcm : cn ≤ 999 := by have := R.out.code.2; omega
    have hk1 := R.out.key
    have hb1 := R.out.body
    have hs1 := R.out.srv
    have hm1 := R.out.mth
    obtain ⟨B, hB⟩ : ∃ B, B = w.heap.size := ⟨_, rfl⟩
    have HB := hide hB
    obtain ⟨w3, hw3⟩ : ∃ w3, w3 = w2.alloc (.cells #[.int .u8 l.kind, .int .u8 (l.frm % 256), .int .u8 (l.to % 256)] 5) := ⟨_, rfl⟩
    have S3 : Hid (Lie B w w3 (brow B (.slice (some ⟨w2.heap.size, 0, none⟩) 3 3) [l.kind, l.frm % 256, l.to % 256] :: [lbx r l])) := hide (by
      rw [hB]
      refine S2.out.push (t := brow w.heap.size (.slice (some ⟨w2.heap.size, 0, none⟩) 3 3) [l.kind, l.frm % 256, l.to % 256]) (by rw [hw3]; exact (Turn.refl _ w2).alloc _) ?_ (fun g hg => ?_)
      · exact ⟨rfl, .inr ⟨w2.heap.size, 3, _, rfl, S2.out.base_le, by rw [hw3]; exact heap_alloc_new w2 _, Nat.le_refl _, by unfold maxLen; omega, rfl, rfl⟩⟩
      · have : w2.heap.size = g := Option.some.inj hg
        omega)
    have HW3 := hide hw3
    obtain ⟨v3, hv3⟩ : ∃ v3 : Value, v3 = .slice (some ⟨w2.heap.size, 0, none⟩) 3 3 := ⟨_, rfl⟩
    rw [← hv3] at S3
    have HV3 := hide hv3
    clear hw3 hB hv3 hcn S2
    go_wp2_with fail
    rw [← HW3.out, ← HV3.out]
    clear z0 z1 z2 z3 z4 z5 z6 z7 z8 z9
    obtain ⟨_, _, _, z3, z4, _, _, _, _, _⟩ := lcell (S3.out.get 1 rfl)
    go_region_held3 (fun W => W.cell? ⟨r, 3, none⟩ = some (.int .u64 l.seq) ∧ W.cell? ⟨r, 4, none⟩ = some (.string l.key)) (go_keep) (first | (go_at_call 18; refine (putvar_any (xs := [l.kind, l.frm % 256, l.to % 256]) (ts := [lbx r l]) l.seq hq (by simp) S3.out.drew).mono ?_; rintro e w4 ⟨v4, rfl, S4⟩; obtain ⟨_, _, _, y3, y4, _, _, _, _, _⟩ := lcell (S4.out.get 1 rfl)) | (go_at_call 17; refine (text_any l.key (by omega) (by have := varB_ten l.seq hq; simp; omega) S4.out).mono ?_; rintro e w5 ⟨v5, rfl, S5⟩; obtain ⟨_, _, _, x3, x4, x5, _, _, _, _⟩ := lcell (S5.out.get 1 rfl)))
    have hl5 : ([l.kind, l.frm % 256, l.to % 256] ++ varB l.seq ++ varB l.key.size ++ bytes l.key).length ≤ 100 := by
      have h1 := varB_ten l.seq hq
      have h2 := varB_ten l.key.size (by omega)
      have h3 := bytes_len l.key
      simp; omega
    generalize hz5 : [l.kind, l.frm % 256, l.to % 256] ++ varB l.seq ++ varB l.key.size ++ bytes l.key = q5 at *
    have HZ5 := hide hz5
    clear hz5 S3 S4 z3 z4 y3 y4
    go_wp2_with fail
    refine (putbig_any (xs := q5) (ts := [lbx r l]) l.print 8 hp (by omega) (by omega) S5.out).mono ?_
    rintro e w6 ⟨v6, rfl, S6⟩
    have hl6 : (q5 ++ bigB l.print 8 8).length ≤ 108 := by rw [List.length_append, bigB_len]; omega
    generalize hz6 : q5 ++ bigB l.print 8 8 = q6 at *
    have HZ6 := hide hz6
    clear hz6 S5 x3 x4 x5
    obtain ⟨_, _, _, _, _, _, z6, z7, _, _⟩ := lcell (S6.out.get 1 rfl)
    go_wp2_with fail
    go_region_held3 (fun W => W.cell? ⟨r, 6, none⟩ = some (.string l.srv) ∧ W.cell? ⟨r, 7, none⟩ = some (.string l.mth)) (go_keep) (first | (go_at_call 17; first | (refine (text_any l.mth (by omega) (by have h1 := varB_ten l.srv.size (by omega); have h2 := bytes_len l.srv; simp; omega) S7.out).mono ?_; rintro e w8 ⟨v8, rfl, S8⟩; obtain ⟨_, _, _, _, _, _, x6, x7, x8, x9⟩ := lcell (S8.out.get 1 rfl)) | (refine (text_any (xs := q6) (ts := [lbx r l]) l.srv (by omega) (by omega) S6.out.drew).mono ?_; rintro e w7 ⟨v7, rfl, S7⟩; obtain ⟨_, _, _, _, _, _, y6, y7, _, _⟩ := lcell (S7.out.get 1 rfl))))
    have hl8 : (q6 ++ varB l.srv.size ++ bytes l.srv ++ varB l.mth.size ++ bytes l.mth).length ≤ 300 := by
      have h1 := varB_ten l.srv.size (by omega)
      have h2 := varB_ten l.mth.size (by omega)
      have h3 := bytes_len l.srv
      have h4 := bytes_len l.mth
      simp; omega
    generalize hz8 : q6 ++ varB l.srv.size ++ bytes l.srv ++ varB l.mth.size ++ bytes l.mth = q8 at *
    have HZ8 := hide hz8
    clear hz8 S6 S7 z6 z7 y6 y7 x6 x7
    rw [HCN.out] at x8
    have hwu : IntKind.u64.wrap (cn : Int) = (cn : Int) := by rw [IntKind.wrap_u64]; omega
    go_wp2_with fail
    go_region_held3 (fun W => W.cell? ⟨r, 8, none⟩ = some (.int .i64 cn) ∧ W.cell? ⟨r, 9, none⟩ = some (.string l.body)) (go_keep) (first | (go_at_call 18; refine (putvar_any (xs := q8) (ts := [lbx r l]) cn (by omega) (by omega) S8.out.drew).mono ?_; rintro e w9 ⟨v9, rfl, S9⟩; obtain ⟨_, _, _, _, _, _, _, _, y8, y9⟩ := lcell (S9.out.get 1 rfl); rw [HCN.out] at y8) | (go_at_call 17; refine (text_any l.body (by omega) (by have h1 := varB_ten cn (by omega); simp; omega) S9.out).mono ?_; rintro e w10 ⟨v10, rfl, S10⟩; obtain ⟨_, _, _, _, _, _, _, _, u8, u9⟩ := lcell (S10.out.get 1 rfl); rw [HCN.out] at u8))
    have hl10 : (q8 ++ varB cn ++ varB l.body.size ++ bytes l.body).length ≤ 5000 := by
      have h1 := varB_ten cn (by omega)
      have h2 := varB_ten l.body.size (by omega)
      have h3 := bytes_len l.body
      simp; omega
    have hhd : Hid (q8 ++ varB cn ++ varB l.body.size ++ bytes l.body = headB l) := hide (by
      rw [← HZ8.out, ← HZ6.out, ← HZ5.out]
      have : cn = l.code.toNat := by rw [HCN.out]; rfl
      rw [this]
      simp [headB, txtB, List.append_assoc])
    rw [hhd.out] at S10 hl10
    clear S8 S9 x8 x9 y8 y9 u8 u9
    obtain ⟨A', c', rfl⟩ := (Rd.of_own (S10.out.get 0 rfl)).shape
    have hcv := conv_any _ _ w10 (Rd.of_own (S10.out.get 0 rfl))
    have CC := hide (crc_any (strOfNums (headB l)) w10 (by rw [strOfNums_size]; omega))
    generalize hzh : headB l = q10 at *
    have HZH := hide hzh
    clear hzh
    go_wp2_with fail
    refine CC.out.mono ?_
    rintro e w11 ⟨rfl, t11⟩
    have S11 := hide (S10.out.stay t11)
    obtain ⟨cx, hcx⟩ := Int.eq_ofNat_of_zero_le (crc_in (strOfNums q10)).1
    have hcx2 : (cx : Int) < 4294967296 := by rw [← hcx]; exact (crc_in _).2
    have HCX := hide hcx
    rw [hcx]
    have hwc : IntKind.u64.wrap (cx : Int) = (cx : Int) := by rw [IntKind.wrap_u64]; omega
    clear hcv t11 S10 hcx
    go_wp2_with fail
    refine (putlittle_any (xs := q10) (ts := [lbx r l]) cx 4 (by omega) (by omega) (by omega) S11.out).mono ?_
    rintro e w12 ⟨v12, rfl, S12⟩
    have hpk : Hid (q10 ++ litB cx 4 = packB l) := hide (by unfold packB; rw [HZH.out, HCX.out]; rfl)
    rw [hpk.out] at S12
    have hcv2 := conv_any _ _ w12 (Rd.of_own (S12.out.get 0 rfl))
    clear hwc S11 CC
    go_wp2_with fail
    go_ret2
    exact ⟨.inr ⟨R.out, rfl⟩, Turn.of_below (by have h := S12.out.below; rw [HB.out] at h; exact h)⟩
end Go.Proofs.YtnljdcghaecdaaaGreatDoor
