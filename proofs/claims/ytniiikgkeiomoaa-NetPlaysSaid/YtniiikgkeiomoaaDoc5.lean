/-
  The document's net: Cut.
-/
import Derived.Test.YtniiikgkeiomoaaDoc4
namespace Go.Proofs.Ytniiikgkeiomoaa
open Go.RowKit Go.Maps

def onWay (a b : Int) (p : Int × Int) : Bool := (p.1 == a && p.2 == b) || (p.1 == b && p.2 == a)
def others (ws : List (Int × Int)) (a b : Int) : List (Int × Int) := ws.filter fun p => !onWay a b p
def dcutTo (ws : List (Int × Int)) (a b : Int) (on : Bool) : List (Int × Int) := if on then others ws a b ++ [(a, b)] else others ws a b
theorem others_len (ws : List (Int × Int)) (a b : Int) : (others ws a b).length ≤ ws.length := List.length_filter_le _ _
theorem others_take (ws : List (Int × Int)) (a b : Int) (k : Nat) (hk : k < ws.length) : others (ws.take (k + 1)) a b = if onWay a b ws[k] = true then others (ws.take k) a b else others (ws.take k) a b ++ [ws[k]] := by
  unfold others
  rw [take_snoc ws k hk, List.filter_append]
  cases h : onWay a b ws[k] <;> simp [h]

section
variable {base : Nat} {w0 w : World} {ts : List Thing} {dn : Nat} {v1 v2 : Value} {ps : List Pk} {ws : List (Int × Int)}
def CutLoop (base : Nat) (w0 : World) (dn : Nat) (v1 v2 : Value) (ps : List Pk) (ws : List (Int × Int)) (ts : List Thing) (ls : List (Int × Int)) (vl : Value) (wr : World) : Prop :=
  Lie base w0 wr (docT base dn v1 v2 ps ws (row base 69 2 vl ls.length (ls.flatMap wyCells) :: ts))
set_option maxRecDepth 100000 in
set_option maxHeartbeats 2000000 in
theorem dcut (h : Lie base w0 w (docT base dn v1 v2 ps ws ts)) (a b : Int) (on : Bool) (hm : ws.length ≤ 900000) :
    Calls Try.prog 33 #[.pointer (some ⟨dn, 0, none⟩), .int .i64 a, .int .i64 b, .bool on] w (DocTells (.tuple #[]) base w0 dn ps (dcutTo ws a b on) ts) := by
  obtain ⟨i0, hinf, hz0, hz1, hz2⟩ := info_parts info69
  obtain ⟨A, c, rfl⟩ := (Rd.of_own (h.get 2 rfl)).shape
  have I0 : CutLoop base w0 dn v1 (.slice A ws.length c) ps ws ts (others (ws.take 0) a b) (.slice none (others (ws.take 0) a b).length 0) w := by
    have := h.nil_row 69 2
    exact this.pick (fun i => if i = 0 then 1 else if i = 1 then 2 else if i = 2 then 3 else if i = 3 then 0 else i) (fun i j _ _ e => by
      by_cases a0 : i = 0 <;> by_cases a1 : i = 1 <;> by_cases a2 : i = 2 <;> by_cases a3 : i = 3 <;> by_cases b0 : j = 0 <;> by_cases b1 : j = 1 <;> by_cases b2 : j = 2 <;> by_cases b3 : j = 3 <;> simp [a0, a1, a2, a3, b0, b1, b2, b3] at e <;> omega) (fun i u hu => by
      match i with
      | 0 => exact hu
      | 1 => exact hu
      | 2 => exact hu
      | 3 => exact hu
      | i + 4 => simpa using hu)
  clear h
  go_enter Try.func33, Try.ntmps33
  go_wp2_with fail
  obtain ⟨wo, rfl⟩ : ∃ wo : World, wo = w := ⟨_, rfl⟩
  go_loopw [8, 9] (fun v i wr => ∃ (k : Nat) (B : Option Addr) (d : Nat), k ≤ ws.length ∧ i = .int .i64 k ∧ v = .slice B (others (ws.take k) a b).length d ∧ CutLoop base w0 dn v1 (.slice A ws.length c) ps ws ts (others (ws.take k) a b) (.slice B (others (ws.take k) a b).length d) wr) (fun _ i _ => ws.length - (intOf i).toNat)
  case atStart => exact ⟨0, none, 0, by omega, rfl, rfl, I0⟩
  case round =>
    clear I0
    obtain ⟨k, B, d, hk, rfl, rfl, hS⟩ := hrel
    have h1 : wr.heap[dn]? = some (.cells #[v1, .slice A ws.length c] 61 (0, 0)) := hS.get 0 rfl
    have c1 := (cell2 h1).2.1
    have HS := hide hS
    have hbw := hS.base_le
    have H1 := hide h1
    clear h1 hS
    by_cases hlt : k < ws.length
    · obtain ⟨bl, ol, rfl, hbl, q0, q1⟩ := rd_wy (Rd.of_own (HS.out.get 2 rfl)) k hlt
      have hki : (k : Int) < (ws.length : Int) := by omega
      have hst := others_take ws a b k hlt
      have hol := others_len (ws.take k) a b
      rw [List.length_take] at hol
      generalize ws[k] = p at *
      obtain ⟨x, y⟩ := p
      have hsW := HS.out.skip (.cells #[.int .i64 x, .int .i64 y] 69)
      have HSW := hide hsW
      have own : Hid ((wr.alloc (.cells #[.int .i64 x, .int .i64 y] 69)).ownsRow base 69 2 (.slice B (others (ws.take k) a b).length d) _ _) := hide (hsW.get 3 rfl)
      have hbW := hsW.base_le
      clear hsW
      by_cases e1 : onWay a b (x, y) = true
      · rw [if_pos e1] at hst
        have HT := hide hst
        have HI : Hid (CutLoop base w0 dn v1 (.slice (some ⟨bl, ol, none⟩) ws.length c) ps ws ts (others (ws.take (k + 1)) a b) (.slice B (others (ws.take (k + 1)) a b).length d) (wr.alloc (.cells #[.int .i64 x, .int .i64 y] 69))) := by rw [hst]; exact HSW
        have hw : (x = a ∧ y = b) ∨ (x = b ∧ y = a) := by simpa [onWay] using e1
        clear hst e1
        by_cases hA : x = a ∧ y = b
        · obtain ⟨rfl, rfl⟩ := hA
          clear hw
          go_wp2_with fail
          go_roundw
          case rel => exact ⟨k + 1, B, d, by omega, by go_num, by rw [HT.out], HI.out⟩
          case measure => simp [intOf]; omega
        · obtain ⟨rfl, rfl⟩ := hw.resolve_left hA
          have hxy : (x == y) = false := by simp; intro h; exact hA ⟨h, h.symm⟩
          have hyx : (y == x) = false := by simp; intro h; exact hA ⟨h.symm, h⟩
          clear hw hA
          go_wp2_with fail
          go_roundw
          case rel => exact ⟨k + 1, B, d, by omega, by go_num, by rw [HT.out], HI.out⟩
          case measure => simp [intOf]; omega
      · rw [if_neg e1] at hst
        have HT := hide hst
        have hw1 : ¬ (x = a ∧ y = b) := fun h => e1 (by simp [onWay, h.1, h.2])
        have hw2 : ¬ (x = b ∧ y = a) := fun h => e1 (by simp [onWay, h.1, h.2])
        have h4 : ((x == a) = false ∨ ((x == a) = true ∧ (y == b) = false)) ∧ ((x == b) = false ∨ ((x == b) = true ∧ (y == a) = false)) := by
          constructor
          · by_cases t1 : x = a
            · exact .inr ⟨by simpa using t1, by simp; exact fun h => hw1 ⟨t1, h⟩⟩
            · exact .inl (by simpa using t1)
          · by_cases t1 : x = b
            · exact .inr ⟨by simpa using t1, by simp; exact fun h => hw2 ⟨t1, h⟩⟩
            · exact .inl (by simpa using t1)
        clear hst e1 hw1 hw2
        obtain ⟨f1 | ⟨f1, f2⟩, f3 | ⟨f3, f4⟩⟩ := h4
        all_goals
          go_wp2_with (at_builtin; refine wpList_append1 rfl (.tmp 52) (.tmp 54) 59 rfl base 69 i0 _ 2 16 Try.underlying59 hinf hz0 hz1 hz2 rfl (by decide) (.slice B (others (ws.take k) a b).length d) _ _ (by simp [Act.eval]) own.out (wyCells (x, y)) (by simp [Act.eval]) rfl (wy_oneCell (x, y)) (by omega) (by omega) hbW ?_; intro v3 w3 own3 t3 new3; obtain ⟨B3, d3, rfl⟩ := (Rd.of_own own3).shape)
          go_roundw
          case rel =>
            have e2 := HT.out
            have e3 : (others (ws.take k) a b).length + 1 = (others (ws.take (k + 1)) a b).length := by rw [e2]; simp
            rw [e3] at own3 new3 ⊢
            refine ⟨k + 1, B3, d3, by omega, by go_num, rfl, ?_⟩
            exact HSW.out.step 3 rfl (t' := row base 69 2 (.slice B3 (others (ws.take (k + 1)) a b).length d3) (others (ws.take (k + 1)) a b).length ((others (ws.take (k + 1)) a b).flatMap wyCells)) t3 (by rw [e2] at own3 ⊢; simpa [row] using own3) (fun g hg => new3 g hg)
          case measure => simp [intOf]; omega
    · obtain rfl : k = ws.length := by omega
      have hs := HS.out
      unfold CutLoop at hs
      rw [List.take_length] at hs ⊢
      have hol := others_len ws a b
      have e1 : dcutTo ws a b false = others ws a b := rfl
      have e2 : dcutTo ws a b true = others ws a b ++ [(a, b)] := rfl
      have E1 := hide e1
      have E2 := hide e2
      generalize others ws a b = ls at *
      have own : Hid (wr.ownsRow base 69 2 (.slice B ls.length d) ls.length (ls.flatMap wyCells)) := hide (hs.get 3 rfl)
      have HS2 := hide hs
      have f1 := (box_cell H1.out 1).2
      clear hs HS e1 e2
      cases on with
      | false =>
        go_wp2_with fail
        first | refine bodyPost_ret (results_none rfl _ _ _) rfl ?_ | go_end0
        exact ⟨rfl, _, _, by rw [E1.out]; exact (HS2.out.setBox 0 rfl 1 (.slice B ls.length d)).erase 2⟩
      | true =>
        go_wp2_with (at_builtin; refine wpList_append1 rfl (.tmp 57) (.tmp 61) 59 rfl base 69 i0 _ 2 16 Try.underlying59 hinf hz0 hz1 hz2 rfl (by decide) (.slice B ls.length d) _ _ (by simp [Act.eval]) own.out (wyCells (a, b)) (by simp [Act.eval]) rfl (wy_oneCell (a, b)) (by omega) (by omega) hbw ?_; intro v3 w3 own3 t3 new3; obtain ⟨B3, d3, rfl⟩ := (Rd.of_own own3).shape; have e3 : ls.length + 1 = (ls ++ [(a, b)]).length := (by simp); rw [e3] at own3 new3; have s3 := hide (HS2.out.step 3 rfl (t' := row base 69 2 (.slice B3 (ls ++ [(a, b)]).length d3) (ls ++ [(a, b)]).length ((ls ++ [(a, b)]).flatMap wyCells)) t3 (by rw [List.flatMap_append]; simpa [row] using own3) (fun g hg => new3 g hg)); have g1 := (cell2 (s3.out.get 0 rfl)).2.1; have g2 := (box_cell (s3.out.get 0 rfl) 1).2; clear own3 new3 t3 e3)
        first | refine bodyPost_ret (results_none rfl _ _ _) rfl ?_ | go_end0
        have e3 : ls.length + 1 = (ls ++ [(a, b)]).length := by simp
        refine ⟨rfl, v1, .slice B3 (ls ++ [(a, b)]).length d3, ?_⟩
        rw [E2.out, e3]
        exact (s3.out.setBox 0 rfl 1 (.slice B3 (ls ++ [(a, b)]).length d3)).erase 2
end
end Go.Proofs.Ytniiikgkeiomoaa
