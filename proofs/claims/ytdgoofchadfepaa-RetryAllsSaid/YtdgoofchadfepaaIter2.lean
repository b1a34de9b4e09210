/-
  The iterator of All.
-/
import Derived.Test.YtdgoofchadfepaaIter
import Derived.RangeFuncNested
import Derived.OwnWalkIn
import Derived.TacticsInMore
import Derived.LoopNIn
import Derived.LoopIn
namespace Go.Proofs.Ytdgoofchadfepaa
open Go.RowKit

abbrev att (x : Int × Int) : Array Value := #[.int .i64 x.1, .int .i64 x.2]
/-- So many attempts with their bases. -/
def upto (p : Po) (k : Nat) : List (Int × Int) := (List.range k).map fun j : Nat => ((j : Int) + 1, bas p j)
theorem upto_succ (p : Po) (k : Nat) : upto p (k + 1) = upto p k ++ [((k : Int) + 1, bas p k)] := by simp [upto, List.range_succ]
theorem upto_prefix (p : Po) (k m : Nat) (h : k ≤ m) : upto p k <+: upto p m := by
  obtain ⟨d, rfl⟩ := Nat.exists_eq_add_of_le h
  exact ⟨(List.range d).map (fun j : Nat => (((k + j : Nat) : Int) + 1, bas p (k + j))), by unfold upto; rw [List.range_add, List.map_append, List.map_map]; rfl⟩
def prev (p : Po) : Nat → Int
  | 0 => 0
  | k + 1 => bas p k

theorem pcells {p : Po} {pb : Nat} {W : World} (h1 : W.heap[pb]? = some (pobj p)) : W.cell? ⟨pb, 0, none⟩ = some (.int .i64 p.first) ∧ W.cell? ⟨pb, 1, none⟩ = some (.int .i64 p.cap) ∧ W.cell? ⟨pb, 2, none⟩ = some (.int .i64 p.num) ∧ W.cell? ⟨pb, 3, none⟩ = some (.int .i64 p.den) ∧ W.cell? ⟨pb, 4, none⟩ = some (.int .i64 p.spread) ∧ W.cell? ⟨pb, 5, none⟩ = some (.int .i64 p.most) := by simp [World.cell?, h1]
/-- Between two rounds. -/
def IterInv (p : Po) (pb wb base : Nat) (J : List (Int × Int) → List Thing → Prop) (w0 : World) (k : Nat) (wr : World) : Prop := ∃ js, J (upto p k) js ∧ Lie base w0 wr (box wb (wobj p (prev p k)) :: box pb (pobj p) :: js)
theorem next_any (p : Po) (hp : Right p) (k wb : Nat) (w : World) (h : w.heap[wb]? = some (wobj p (prev p k))) : Calls Try.prog 19 #[.pointer (some ⟨wb, 0, none⟩)] w (NextTo (bas p k) w wb) := by
  cases k with
  | zero => exact next_first p wb w h
  | succ k => exact next_go p hp k wb w h
theorem iter_no (p : Po) (h : ¬ Right p) (pb base : Nat) : IterL Try.prog 18 #[.pointer (some ⟨pb, 0, none⟩)] att [] [box pb (pobj p)] base := by
  intro l J Jx w0 W js hJ hL hY
  have h1 : W.heap[pb]? = some (pobj p) := hL.get 0 rfl
  obtain ⟨c0, c1, c2, c3, c4, c5⟩ := (show W.cell? ⟨pb, 0, none⟩ = some (.int .i64 p.first) ∧ W.cell? ⟨pb, 1, none⟩ = some (.int .i64 p.cap) ∧ W.cell? ⟨pb, 2, none⟩ = some (.int .i64 p.num) ∧ W.cell? ⟨pb, 3, none⟩ = some (.int .i64 p.den) ∧ W.cell? ⟨pb, 4, none⟩ = some (.int .i64 p.spread) ∧ W.cell? ⟨pb, 5, none⟩ = some (.int .i64 p.most) by simp [World.cell?, h1])
  have HL := hide hL
  have HJ := hide hJ
  have HN := hide h
  clear hY hL hJ h h1
  show Calls Try.prog 18 #[.func (.yield l) #[] #[], .pointer (some ⟨pb, 0, none⟩)] W _
  go_enter Try.func18, Try.ntmps18
  go_wp2_with fail
  refine (check_no p HN.out W).mono ?_
  rintro e w1 ⟨rfl, t1⟩
  go_wp2_with fail
  refine bodyPost_ret (results_none rfl _ _ _) rfl ?_
  exact ⟨⟨_, rfl⟩, js, HL.out.stay t1, .inl HJ.out⟩

set_option maxRecDepth 100000 in
set_option maxHeartbeats 2000000 in
theorem iter_yes (p : Po) (h : Right p) (n : Nat) (hn : p.most = n) (pb base : Nat) : IterL Try.prog 18 #[.pointer (some ⟨pb, 0, none⟩)] att (upto p n) [box pb (pobj p)] base := by
  intro l J Jx w0 W js hJ hL hY
  have h1 : W.heap[pb]? = some (pobj p) := hL.get 0 rfl
  obtain ⟨c0, c1, c2, c3, c4, c5⟩ := (show W.cell? ⟨pb, 0, none⟩ = some (.int .i64 p.first) ∧ W.cell? ⟨pb, 1, none⟩ = some (.int .i64 p.cap) ∧ W.cell? ⟨pb, 2, none⟩ = some (.int .i64 p.num) ∧ W.cell? ⟨pb, 3, none⟩ = some (.int .i64 p.den) ∧ W.cell? ⟨pb, 4, none⟩ = some (.int .i64 p.spread) ∧ W.cell? ⟨pb, 5, none⟩ = some (.int .i64 p.most) by simp [World.cell?, h1])
  have hm2 : n ≤ 30 := by have := h.m2; omega
  have HL := hide hL
  have HJ := hide hJ
  have HR := hide h
  have HY := hide hY
  have HN := hide hn
  clear hY hL hJ h h1 hn
  show Calls Try.prog 18 #[.func (.yield l) #[] #[], .pointer (some ⟨pb, 0, none⟩)] W _
  refine callsIn_wide.1 (callsIn_of_wp (n := 3) (F := Fence.wide) Try.func18 rfl trivial ?_ rfl)
  simp only [Try.ntmps18, List.size_toArray, List.length_cons, List.length_nil, Nat.reduceAdd, Nat.reduceSub, Array.replicate_succ, Array.replicate_zero, List.push_toArray, List.append_toArray, List.nil_append, List.cons_append]
  gi_wp2_with (refine ⟨trivial, ?_⟩; gi_at_call 12; refine (callsIn_wide.2 (check_yes p HR.out _)).mono ?_; rintro e w1 ⟨rfl, t1⟩; have s1 := hide (HL.out.stay t1); clear c0 c1 c2 c3 c4 c5; obtain ⟨c0, c1, c2, c3, c4, c5⟩ := pcells (s1.out.get 0 rfl))
  have I0 : IterInv p pb w1.heap.size base J w0 0 (w1.alloc (.cells #[.int .i64 p.first, .int .i64 p.cap, .int .i64 p.num, .int .i64 p.den, .int .i64 p.spread, .int .i64 p.most, .int .i64 0] 51)) := ⟨js, HJ.out, s1.out.alloc _⟩
  generalize w1.heap.size = wb at *
  clear c0 c1 c2 c3 c4 c5 HJ HL s1 t1
  gi_loopw [4] (fun i wr => ∃ k : Nat, k ≤ n ∧ i = .int .i64 ((k : Int) + 1) ∧ IterInv p pb wb base J w0 k wr) (fun i _ => n + 1 - (intOf i).toNat)
  case atStart => exact ⟨0, by omega, rfl, I0⟩
  case round =>
    clear I0
    obtain ⟨k, hk, rfl, ks, hJ, hL⟩ := hrel
    have HL := hide hL
    have HJ := hide hJ
    obtain ⟨c0, c1, c2, c3, c4, c5⟩ := pcells (hL.get 1 rfl)
    rw [HN.out] at c5
    clear hL hJ
    by_cases hlt : k < n
    · have hki : (k : Int) + 1 ≤ (n : Int) := by omega
      gi_wp2
      refine ⟨trivial, ?_⟩
      refine (callsIn_wide.2 (next_any p HR.out k wb wr (HL.out.get 0 rfl))).mono ?_
      rintro e w2 ⟨rfl, n1, hw2⟩
      have s2 : Lie base w0 w2 ([box wb (wobj p (bas p k)), box pb (pobj p)] ++ ks) := by rw [hw2]; exact (HL.out.drewN n1).setBox 0 rfl 6 (.int .i64 (bas p k))
      clear hw2 c0 c1 c2 c3 c4 c5
      have hpre : upto p k ++ [((k : Int) + 1, bas p k)] <+: upto p n := by rw [← upto_succ]; exact upto_prefix p _ _ hlt
      obtain ⟨fn, tmps, assign, body, hy, hR⟩ := HY.out (3 - 1) (upto p k) ((k : Int) + 1, bas p k) [box wb (wobj p (bas p k)), box pb (pobj p)] ks w2 hpre HJ.out s2
      dsimp only [att] at hy
      have HPRE := hide hpre
      clear hpre s2
      gi_wp2
      refine hR.mono ?_
      rintro e w3 ⟨js3, s3, ⟨rfl, hJ3⟩ | ⟨rfl, hJ3⟩⟩
      · have I3 : IterInv p pb wb base J w0 (k + 1) w3 := ⟨js3, by rw [upto_succ]; exact hJ3, s3⟩
        clear s3 hJ3 hy hR
        gi_wp2
        go_roundw
        case rel => exact ⟨k + 1, by omega, by go_num, I3⟩
        case measure => simp [intOf]; omega
      · have S3 := hide s3
        have HJ3 := hide hJ3
        clear s3 hJ3 hy hR
        gi_wp2
        refine bodyPost_ret (results_none rfl _ _ _) rfl ?_
        exact ⟨⟨_, rfl⟩, js3, S3.out.pop, .inr ⟨_, HPRE.out, HJ3.out⟩⟩
    · obtain rfl : k = n := by omega
      gi_wp2
      go_end0
      exact ⟨⟨_, rfl⟩, ks, HL.out.pop, .inl HJ.out⟩
end Go.Proofs.Ytdgoofchadfepaa
