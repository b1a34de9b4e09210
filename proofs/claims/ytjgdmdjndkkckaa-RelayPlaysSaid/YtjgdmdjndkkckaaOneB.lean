/-
  one: the acts that change nothing; all acts.
-/
import Derived.Test.YtjgdmdjndkkckaaOne
namespace Go.Proofs.Ytjgdmdjndkkckaa
open Go.Conc Go.RowKit

theorem self_st (x : St) (most : Int) (w : World) (h : BoxSt w x) : Calls Try.prog 16 #[.pointer (bp x), .pointer (bp x), .int .i64 most] w fun e w' => e = .returned (.int .i64 0) ∧ w = w' := by
  cases x with
  | none => exact move_from_no (.inl rfl) _ most
  | some y => exact move_self (h y rfl).1 most

theorem done_same {w W : World} {base : Nat} {S : Nat → St} (t : Turn (fun _ => False) w W) (h : Holds W base S) : OnePost w base S (.returned (.bool true)) W :=
  ⟨rfl, t.mono fun _ _ h => h.elim, S, h, fun _ _ => rfl⟩

set_option maxRecDepth 100000 in
set_option maxHeartbeats 1000000 in
theorem self_act_0 (S : Nat → St) (base : Nat) (w : World) (h : Holds w base S) (box n : Int) (s : ByteArray) (hbox : (wrap64 (box.tmod 3 + 3)).tmod 3 = 0) :
    Calls Try.prog 18 #[arrB S, arrR S, .agg #[.int .i64 5, .int .i64 box, .int .i64 n, .string s]] w (OnePost w base S) := by
  have hW : boxed w S 5 box n s = ((w.alloc (.cells #[.pointer (bp (S 0)), .pointer (bp (S 1)), .pointer (bp (S 2))] 42)).alloc (.cells #[.pointer (rp (S 0)), .pointer (rp (S 1)), .pointer (rp (S 2))] 44)).alloc (.cells #[.int .i64 5, .int .i64 box, .int .i64 n, .string s] 31) := rfl
  have HW := hide hW
  have tW := boxed_turn w S 5 box n s
  have fW := boxed_fr w S 5 box n s
  have hWh := h.turn tW
  clear hW
  generalize boxed w S 5 box n s = W at *
  have f1 := fW.a 0 (by omega)
  have f3 := fW.x2
  go_enter Try.func18, Try.ntmps18
  go_wp2_with fail
  rw [← HW.out]
  go_region_held3 (fun w' => w'.cell? ⟨w.heap.size, 0, none⟩ = some (.pointer (bp (S 0))) ∧ w'.cell? ⟨w.heap.size + 1 + 1, 2, none⟩ = some (.int .i64 n)) (go_keep)
    (first | (go_at_call 16; refine (self_st (S 0) n _ (by exact hWh.box 0 (by omega))).mono ?_; rintro e w1 ⟨rfl, rfl⟩))
  go_wp2_with fail
  go_ret
  exact done_same tW.drew (hWh.turn (Turn.refl _ W).drew)

set_option maxRecDepth 100000 in
set_option maxHeartbeats 1000000 in
theorem self_act_1 (S : Nat → St) (base : Nat) (w : World) (h : Holds w base S) (box n : Int) (s : ByteArray) (hbox : (wrap64 (box.tmod 3 + 3)).tmod 3 = 1) :
    Calls Try.prog 18 #[arrB S, arrR S, .agg #[.int .i64 5, .int .i64 box, .int .i64 n, .string s]] w (OnePost w base S) := by
  have hW : boxed w S 5 box n s = ((w.alloc (.cells #[.pointer (bp (S 0)), .pointer (bp (S 1)), .pointer (bp (S 2))] 42)).alloc (.cells #[.pointer (rp (S 0)), .pointer (rp (S 1)), .pointer (rp (S 2))] 44)).alloc (.cells #[.int .i64 5, .int .i64 box, .int .i64 n, .string s] 31) := rfl
  have HW := hide hW
  have tW := boxed_turn w S 5 box n s
  have fW := boxed_fr w S 5 box n s
  have hWh := h.turn tW
  clear hW
  generalize boxed w S 5 box n s = W at *
  have f1 := fW.a 1 (by omega)
  have f3 := fW.x2
  go_enter Try.func18, Try.ntmps18
  go_wp2_with fail
  rw [← HW.out]
  go_region_held3 (fun w' => w'.cell? ⟨w.heap.size, 1, none⟩ = some (.pointer (bp (S 1))) ∧ w'.cell? ⟨w.heap.size + 1 + 1, 2, none⟩ = some (.int .i64 n)) (go_keep)
    (first | (go_at_call 16; refine (self_st (S 1) n _ (by exact hWh.box 1 (by omega))).mono ?_; rintro e w1 ⟨rfl, rfl⟩))
  go_wp2_with fail
  go_ret
  exact done_same tW.drew (hWh.turn (Turn.refl _ W).drew)

set_option maxRecDepth 100000 in
set_option maxHeartbeats 1000000 in
theorem self_act_2 (S : Nat → St) (base : Nat) (w : World) (h : Holds w base S) (box n : Int) (s : ByteArray) (hbox : (wrap64 (box.tmod 3 + 3)).tmod 3 = 2) :
    Calls Try.prog 18 #[arrB S, arrR S, .agg #[.int .i64 5, .int .i64 box, .int .i64 n, .string s]] w (OnePost w base S) := by
  have hW : boxed w S 5 box n s = ((w.alloc (.cells #[.pointer (bp (S 0)), .pointer (bp (S 1)), .pointer (bp (S 2))] 42)).alloc (.cells #[.pointer (rp (S 0)), .pointer (rp (S 1)), .pointer (rp (S 2))] 44)).alloc (.cells #[.int .i64 5, .int .i64 box, .int .i64 n, .string s] 31) := rfl
  have HW := hide hW
  have tW := boxed_turn w S 5 box n s
  have fW := boxed_fr w S 5 box n s
  have hWh := h.turn tW
  clear hW
  generalize boxed w S 5 box n s = W at *
  have f1 := fW.a 2 (by omega)
  have f3 := fW.x2
  go_enter Try.func18, Try.ntmps18
  go_wp2_with fail
  rw [← HW.out]
  go_region_held3 (fun w' => w'.cell? ⟨w.heap.size, 2, none⟩ = some (.pointer (bp (S 2))) ∧ w'.cell? ⟨w.heap.size + 1 + 1, 2, none⟩ = some (.int .i64 n)) (go_keep)
    (first | (go_at_call 16; refine (self_st (S 2) n _ (by exact hWh.box 2 (by omega))).mono ?_; rintro e w1 ⟨rfl, rfl⟩))
  go_wp2_with fail
  go_ret
  exact done_same tW.drew (hWh.turn (Turn.refl _ W).drew)

def DefRel (w : World) (base : Nat) (S : Nat → St) (d box n : Int) (s : ByteArray) (wr : World) : Prop :=
  Fr wr w.heap.size S d box n s ∧ Holds wr base S ∧ Turn (fun _ => False) w wr

set_option maxRecDepth 100000 in
set_option maxHeartbeats 2000000 in
theorem other_act (S : Nat → St) (base : Nat) (w : World) (h : Holds w base S) (d box n : Int) (s : ByteArray) (hd0 : (d == 0) = false) (hd1 : (d == 1) = false) (hd2 : (d == 2) = false) (hd3 : (d == 3) = false) (hd4 : (d == 4) = false) (hd5 : (d == 5) = false) :
    Calls Try.prog 18 #[arrB S, arrR S, .agg #[.int .i64 d, .int .i64 box, .int .i64 n, .string s]] w (OnePost w base S) := by
  have hW : boxed w S d box n s = ((w.alloc (.cells #[.pointer (bp (S 0)), .pointer (bp (S 1)), .pointer (bp (S 2))] 42)).alloc (.cells #[.pointer (rp (S 0)), .pointer (rp (S 1)), .pointer (rp (S 2))] 44)).alloc (.cells #[.int .i64 d, .int .i64 box, .int .i64 n, .string s] 31) := rfl
  have HW := hide hW
  have tW := boxed_turn w S d box n s
  have fW := boxed_fr w S d box n s
  have hWh := h.turn tW
  clear hW
  generalize boxed w S d box n s = W at *
  go_enter Try.func18, Try.ntmps18
  go_wp2_with fail
  rw [← HW.out]
  go_loopw [25] (fun i wr => ∃ k : Nat, k ≤ 3 ∧ i = .int .i64 k ∧ DefRel w base S d box n s wr) (fun i _ => 3 - (intOf i).toNat)
  case atStart => exact ⟨0, by omega, rfl, fW, hWh, tW⟩
  case round =>
    obtain ⟨k, hk, rfl, fr, hh, tt⟩ := hrel
    by_cases hlt : k < 3
    · have hki : (k : Int) < 3 := by omega
      have f1 := fr.a k hlt
      have f2 := fr.r k hlt
      have hb := hh.box k hlt
      have hr := hh.ref k hlt
      have hq1 : (lenV (S k) != lenV (S k)) = false := by simp
      have hq2 : (roomV (S k) != roomV (S k)) = false := by simp
      have HB := hide hb
      have HRr := hide hr
      clear hb hr
      go_wp2_with fail
      go_quiet ((first | (go_at_call 13; exact (len_st (S k) _ (by exact HB.out)).mono fun _ _ ⟨he, hw⟩ => ⟨he, _, hw.symm⟩) | (go_at_call 31; exact (rlen_st (S k) base _ (by exact HRr.out)).mono fun _ _ ⟨he, hw⟩ => ⟨he, _, hw.symm⟩) | (go_at_call 10; exact (room_st (S k) _ (by exact HB.out)).mono fun _ _ ⟨he, m, hw⟩ => ⟨he, _, hw.symm.trans (World.drewN_drewN _ _ _)⟩) | (go_at_call 32; exact (rroom_st (S k) base _ (by exact HRr.out)).mono fun _ _ ⟨he, m, hw⟩ => ⟨he, _, hw.symm.trans (World.drewN_drewN _ _ _)⟩)))
      go_wp2_with fail
      go_roundw
      case rel => exact ⟨k + 1, by omega, by go_num, fr.drewN _, hh.drewN _, tt.drewN _⟩
      case measure => simp [intOf]; omega
    · go_wp2_with fail
      go_ret
      exact done_same tt hh

/-- The number of a mailbox. -/
theorem box_num (box : Int) : (wrap64 (box.tmod 3 + 3)).tmod 3 = 0 ∨ (wrap64 (box.tmod 3 + 3)).tmod 3 = 1 ∨ (wrap64 (box.tmod 3 + 3)).tmod 3 = 2 := by
  have h1 : -3 < box.tmod 3 := by have := Int.lt_tmod_of_pos box (show (0 : Int) < 3 by omega); omega
  have h2 : box.tmod 3 < 3 := Int.tmod_lt_of_pos box (by omega)
  rw [IntWalk.wrap64_in _ ⟨by omega, by omega⟩]
  generalize box.tmod 3 = t at *
  have h3 : (t + 3).tmod 3 = (t + 3) % 3 := Int.tmod_eq_emod_of_nonneg (by omega)
  rw [h3]
  omega

theorem one_any (S : Nat → St) (base : Nat) (w : World) (h : Holds w base S) (hbase : base ≤ w.heap.size) (x : ActD) :
    Calls Try.prog 18 #[arrB S, arrR S, .agg #[.int .i64 x.act, .int .i64 x.box, .int .i64 x.n, .string x.text]] w (OnePost w base S) := by
  obtain ⟨d, box, n, s⟩ := x
  by_cases h0 : d = 0
  · subst h0
    rcases box_num box with hb | hb | hb
    · exact put_act_0 S base w h hbase box n s hb
    · exact put_act_1 S base w h hbase box n s hb
    · exact put_act_2 S base w h hbase box n s hb
  by_cases h1 : d = 1
  · subst h1
    rcases box_num box with hb | hb | hb
    · exact take_act_0 S base w h hbase box n s hb
    · exact take_act_1 S base w h hbase box n s hb
    · exact take_act_2 S base w h hbase box n s hb
  by_cases h2 : d = 2
  · subst h2
    rcases box_num box with hb | hb | hb
    · exact all_act_0 S base w h hbase box n s hb
    · exact all_act_1 S base w h hbase box n s hb
    · exact all_act_2 S base w h hbase box n s hb
  by_cases h3 : d = 3
  · subst h3
    rcases box_num box with hb | hb | hb
    · exact ei_act_0 S base w h hbase box n s hb
    · exact ei_act_1 S base w h hbase box n s hb
    · exact ei_act_2 S base w h hbase box n s hb
  by_cases h4 : d = 4
  · subst h4
    rcases box_num box with hb | hb | hb
    · exact mv_act_0 S base w h hbase box n s hb
    · exact mv_act_1 S base w h hbase box n s hb
    · exact mv_act_2 S base w h hbase box n s hb
  by_cases h5 : d = 5
  · subst h5
    rcases box_num box with hb | hb | hb
    · exact self_act_0 S base w h box n s hb
    · exact self_act_1 S base w h box n s hb
    · exact self_act_2 S base w h box n s hb
  exact other_act S base w h d box n s (by simp [h0]) (by simp [h1]) (by simp [h2]) (by simp [h3]) (by simp [h4]) (by simp [h5])
end Go.Proofs.Ytjgdmdjndkkckaa
