/-
  awake; the contracts told by what lies there.
-/
import Derived.Test.YtdgoofchadfepaaDoc
namespace Go.Proofs.Ytdgoofchadfepaa
open Go.RowKit Go.Shelf

theorem Lie.of_below {base : Nat} {w0 w w' : World} {ts : List Thing} (h : Lie base w0 w ts) (hb : Below w.heap.size w w') : Lie base w0 w' ts := h.stay (Turn.of_below hb)
abbrev pol : Po := ⟨100, 1000, 3, 2, 500, 8⟩
theorem pol_right : Right pol := by constructor <;> decide
theorem policy_any (w : World) : Calls Try.prog 7 #[] w (Same pol.v w) := by
  go_enter Try.func7, Try.ntmps7
  go_wp2
  exact bodyPost_ret (v := pol.v) (by simp [results, Try.results7, go_sem]) rfl ⟨rfl, (Turn.refl _ w).alloc _⟩
theorem pol_wait : waitOf pol 4 2147483648 = (253, 0) := by
  rw [waitOf_go pol 4 2147483648 _ (baseOf_go pol 4 pol_right (by decide) (by decide))]
  rfl
theorem pol_total : totalOf pol = 4074 := by
  unfold totalOf
  rw [if_pos pol_right]
  rfl
set_option maxRecDepth 100000 in
theorem awake_any (w : World) : Calls Try.prog 10 #[] w fun e w' => e = .returned (.bool true) ∧ Below w.heap.size w w' := by
  go_enter Try.func10, Try.ntmps10
  go_wp2_with fail
  refine (policy_any w).mono ?_
  rintro e w1 ⟨rfl, t1⟩
  have b1 := t1.below (Nat.le_refl _) (fun _ h => h.elim)
  go_wp2_with fail
  refine (wait_any pol 4 2147483648 (by decide) w1).mono ?_
  rintro e w2 ⟨rfl, b2⟩
  rw [pol_wait]
  have B2 := hide (b1.trans (b2.mono b1.size))
  clear b1 b2 t1
  go_wp2_with fail
  refine (policy_any w2).mono ?_
  rintro e w3 ⟨rfl, t3⟩
  have B3 := hide (B2.out.trans ((t3.below (Nat.le_refl _) (fun _ h => h.elim)).mono B2.out.size))
  clear t3
  go_wp2_with fail
  refine (total_any pol w3).mono ?_
  rintro e w4 ⟨rfl, b4⟩
  rw [pol_total]
  have B4 := hide (B3.out.trans (b4.mono B3.out.size))
  clear b4
  go_wp2_with fail
  go_ret
  exact ⟨rfl, B4.out⟩

/-- What is told, and what lies there. -/
def TL (v : Value) (base : Nat) (w0 : World) (ts : List Thing) (e : Ending) (w' : World) : Prop := e = .returned v ∧ Hid (Lie base w0 w' ts)
section
variable {base : Nat} {w0 w : World} {ts : List Thing}
theorem awake_L (h : Lie base w0 w ts) : Calls Try.prog 10 #[] w (TL (.bool true) base w0 ts) := (awake_any w).mono fun _ _ hs => ⟨hs.1, hide (h.of_below hs.2)⟩
theorem checkY_L (p : Po) (hr : Right p) (h : Lie base w0 w ts) : Calls Try.prog 12 #[p.v] w (TL (.int .i64 0) base w0 ts) := (check_yes p hr w).mono fun _ _ hs => ⟨hs.1, hide (h.stay hs.2)⟩
theorem checkN_L (p : Po) (hr : ¬ Right p) (h : Lie base w0 w ts) : Calls Try.prog 12 #[p.v] w (TL (.int .i64 1) base w0 ts) := (check_no p hr w).mono fun _ _ hs => ⟨hs.1, hide (h.stay hs.2)⟩
theorem rightY_L (p : Po) (hr : Right p) (h : Lie base w0 w ts) : Calls Try.prog 15 #[p.v] w (TL (.bool true) base w0 ts) := (right_yes p hr w).mono fun _ _ hs => ⟨hs.1, hide (h.stay hs.2)⟩
theorem rightN_L (p : Po) (hr : ¬ Right p) (h : Lie base w0 w ts) : Calls Try.prog 15 #[p.v] w (TL (.bool false) base w0 ts) := (right_no p hr w).mono fun _ _ hs => ⟨hs.1, hide (h.stay hs.2)⟩
theorem base_L (p : Po) (a : Int) (h : Lie base w0 w ts) : Calls Try.prog 8 #[p.v, .int .i64 a] w (TL (.tuple #[.int .i64 (baseOf p a).1, .int .i64 (baseOf p a).2]) base w0 ts) := (base_any p a w).mono fun _ _ hs => ⟨hs.1, hide (h.of_below hs.2)⟩
theorem dbase_L (p : Po) (a : Int) (h : Lie base w0 w ts) : Calls Try.prog 13 #[p.v, .int .i64 a] w (TL (.tuple #[.int .i64 (baseOf p a).1, .int .i64 (baseOf p a).2]) base w0 ts) := (dbase_any p a w).mono fun _ _ hs => ⟨hs.1, hide (h.of_below hs.2)⟩
theorem wait_L (p : Po) (a : Int) (d : Nat) (hd : d < 4294967296) (h : Lie base w0 w ts) : Calls Try.prog 9 #[p.v, .int .i64 a, .int .u32 d] w (TL (.tuple #[.int .i64 (waitOf p a d).1, .int .i64 (waitOf p a d).2]) base w0 ts) := (wait_any p a d hd w).mono fun _ _ hs => ⟨hs.1, hide (h.of_below hs.2)⟩
theorem dwait_L (p : Po) (a : Int) (d : Nat) (hd : d < 4294967296) (h : Lie base w0 w ts) : Calls Try.prog 14 #[p.v, .int .i64 a, .int .u32 d] w (TL (.tuple #[.int .i64 (waitOf p a d).1, .int .i64 (waitOf p a d).2]) base w0 ts) := (dwait_any p a d hd w).mono fun _ _ hs => ⟨hs.1, hide (h.of_below hs.2)⟩
theorem total_L (p : Po) (h : Lie base w0 w ts) : Calls Try.prog 11 #[p.v] w (TL (.int .i64 (totalOf p)) base w0 ts) := (total_any p w).mono fun _ _ hs => ⟨hs.1, hide (h.of_below hs.2)⟩
end

end Go.Proofs.Ytdgoofchadfepaa
