/-
  Parse; the house's own text.
-/
import Derived.Test.YtnljdcghaecdaaaGreatDoorPsh
import Derived.Deep.RegionLaw
/-
  A schema read. (Printed by mkpsc.py.)
-/
namespace Go.Proofs.YtnljdcghaecdaaaGreatDoor
open Go.RowKit Go.Lib Go.Maps
attribute [local go_sem] Oper.semAt_some

theorem info61w : (Tryz.prog.info? 61).map (fun i => (i.zero, i.size, i.bytes)) = some (some (.agg #[.string ⟨#[]⟩, .bool false, .slice none 0 0]), 3, 48) := by kernel_rfl
theorem info83w : (Tryz.prog.info? 83).map (fun i => (i.zero, i.size, i.bytes)) = some (some (.agg #[.string ⟨#[]⟩, .slice none 0 0]), 2, 40) := by kernel_rfl
theorem info88w : (Tryz.prog.info? 88).map (fun i => (i.zero, i.size, i.bytes)) = some (some (.agg #[.string ⟨#[]⟩, .string ⟨#[]⟩, .slice none 0 0]), 3, 56) := by kernel_rfl
abbrev sbx (r2 : Nat) (n : ByteArray) (rv vv gv : Value) : Thing := box r2 (.cells #[.string n, rv, vv, gv] 26 (0, 0))
abbrev rowF (B : Nat) (v : Value) (d : List FieldD) : Thing := row B 63 2 v d.length (d.flatMap fieldc)
abbrev rowM (B : Nat) (v : Value) (d : List MethD) : Thing := row B 85 5 v d.length (d.flatMap methc)
abbrev rowT (B : Nat) (v : Value) (d : List StepD) : Thing := row B 90 3 v d.length (d.flatMap stepc)
abbrev rowR (B : Nat) (v : Value) (n : ByteArray) (fv : Value) : Thing := row B 61 3 v 1 [.string n, .bool false, fv]
abbrev rowV (B : Nat) (v : Value) (n : ByteArray) (mv : Value) : Thing := row B 83 2 v 1 [.string n, mv]
abbrev rowG (B : Nat) (v : Value) (n a : ByteArray) (sv : Value) : Thing := row B 88 3 v 1 [.string n, .string a, sv]
def fkey (f : FieldD) : ByteArray × List SortD := (f.name, f.ts)
def xkey (x : ByteArray × Int) : ByteArray × List SortD := (x.1, [⟨x.2, ⟨#[]⟩⟩])
section
variable {W w : World} {r : Nat} {t : TokD} {l : List TokD} {ts : List Thing}

theorem at_nil (h : Hid (At W r [] w ts)) : ∃ A c, w.cell? ⟨r, 0, none⟩ = some (.slice A 0 c) := by
  obtain ⟨A, c, hc, hr, hL⟩ := h.out
  exact ⟨A, c, (cell2 (hL.get 0 rfl)).1⟩
theorem at_list (h : Hid (At W r (t :: l) w ts)) : ∃ A c, w.cell? ⟨r, 0, none⟩ = some (.slice A (l.length + 1) c) := by
  obtain ⟨A, c, hc, hr, hL⟩ := h.out
  exact ⟨A, c, (cell2 (hL.get 0 rfl)).1⟩
set_option maxRecDepth 100000 in
set_option maxHeartbeats 16000000 in
theorem pschema_any {tm tn te tR nR bR tV nV bV tG nG g1 ga g2 bG : TokD} {mF mV mG : List TokD} {xs : List (ByteArray × Int)} {ms : List MethD} {ss : List StepD} (hkw : Hid (Kw W)) (hw : Hid (SignK ⟨#[109, 111, 100, 117, 108, 101]⟩ tm)) (hn : Hid (NameK tn)) (hs : Hid (SignK ⟨#[59]⟩ te)) (hR : Hid (tR.kind = 1 ∧ tR.text = ⟨#[114, 101, 99, 111, 114, 100]⟩)) (hnR : Hid (NameK nR)) (hbR : Hid (SignK ⟨#[123]⟩ bR)) (hxl : xs.length ≤ 1000) (hF : Hid (Runs FK mF xs (tV :: nV :: bV :: mV)))
    (hV : Hid (tV.kind = 1 ∧ tV.text = ⟨#[115, 101, 114, 118, 105, 99, 101]⟩)) (hnV : Hid (NameK nV)) (hbV : Hid (SignK ⟨#[123]⟩ bV)) (hml : ms.length ≤ 1000) (hM : Hid (Runs MK mV ms (tG :: nG :: g1 :: ga :: g2 :: bG :: mG)))
    (hG : Hid (tG.kind = 1 ∧ tG.text = ⟨#[115, 97, 103, 97]⟩)) (hnG : Hid (NameK nG)) (hg1 : Hid (SignK ⟨#[40]⟩ g1)) (hga : Hid (NameK ga)) (hg2 : Hid (SignK ⟨#[41]⟩ g2)) (hbG : Hid (SignK ⟨#[123]⟩ bG)) (hsl : ss.length ≤ 1000) (hS : Hid (Runs SK mG ss []))
    (h : Hid (At W r (tm :: tn :: te :: tR :: nR :: bR :: mF) w ts)) :
    Calls Tryz.prog 25 #[.pointer (some ⟨r, 0, none⟩)] w fun e w' => ∃ (rv fv vv mv gv sv : Value) (d : List FieldD) (r2 : Nat), e = .returned (.agg #[.string tn.text, rv, vv, gv]) ∧ Hid (d.map fkey = xs.map xkey) ∧ Hid (At W r [] w' (sbx r2 tn.text rv vv gv :: rowG W.heap.size gv nG.text ga.text sv :: rowT W.heap.size sv ss :: rowV W.heap.size vv nV.text mv :: rowM W.heap.size mv ms :: rowR W.heap.size rv nR.text fv :: rowF W.heap.size fv d :: (d.reverse.map (sthing W.heap.size) ++ ts))) := by
  obtain ⟨w1, r2, HW1, HR2, A1⟩ := at_lay h (.cells #[.string ⟨#[]⟩, .slice none 0 0, .slice none 0 0, .slice none 0 0] 26)
  have C1 := hide (want_to ⟨#[109, 111, 100, 117, 108, 101]⟩ (hide hw.out.2) (hide hw.out.1) A1)
  clear h
  go_enter Tryz.func25, Tryz.ntmps25
  go_upto_region 1 with (fail)
  rw [← HW1.out, ← HR2.out]
  go_wp2_with fail
  refine C1.out.mono ?_
  rintro e w2 ⟨rfl, A2⟩
  clear C1 A1 HW1 HR2
  have C2 := hide (pname_any (hide hn.out.1) hkw hn.out.2 A2)
  go_wp2_with fail
  refine C2.out.mono ?_
  rintro e w3 ⟨rfl, A3⟩
  clear C2 A2
  obtain ⟨c0, c1, c2, c3⟩ := cell4 (at_get A3 0 rfl)
  have f0 := (box_cell (at_get A3 0 rfl) 0).2
  have A4 : Hid (At W r (te :: tR :: nR :: bR :: mF) (w3.setCell ⟨r2, 0, none⟩ (.string tn.text)) (sbx r2 tn.text (.slice none 0 0) (.slice none 0 0) (.slice none 0 0) :: ts)) := at_set A3 0 rfl 0 (.string tn.text)
  go_upto_region 3 with (fail)
  generalize w3.setCell ⟨r2, 0, none⟩ (.string tn.text) = w4 at *
  clear c0 c1 c2 c3 f0 A3
  have C4 := hide (want_to ⟨#[59]⟩ (hide hs.out.2) (hide hs.out.1) A4)
  go_wp2_with fail
  refine C4.out.mono ?_
  rintro e w5 ⟨rfl, A5⟩
  clear C4 A4
  go_wp2_with fail
  go_loopg [] 3 (fun g wr => (3 ≤ g ∧ Hid (At W r (tR :: nR :: bR :: mF) wr (sbx r2 tn.text (.slice none 0 0) (.slice none 0 0) (.slice none 0 0) :: ts))) ∨ (2 ≤ g ∧ ∃ (rv fv : Value) (d : List FieldD), Hid (d.map fkey = xs.map xkey) ∧ Hid (At W r (tV :: nV :: bV :: mV) wr (sbx r2 tn.text rv (.slice none 0 0) (.slice none 0 0) :: rowR W.heap.size rv nR.text fv :: rowF W.heap.size fv d :: (d.reverse.map (sthing W.heap.size) ++ ts)))) ∨
    (1 ≤ g ∧ ∃ (rv fv vv mv : Value) (d : List FieldD), Hid (d.map fkey = xs.map xkey) ∧ Hid (At W r (tG :: nG :: g1 :: ga :: g2 :: bG :: mG) wr (sbx r2 tn.text rv vv (.slice none 0 0) :: rowV W.heap.size vv nV.text mv :: rowM W.heap.size mv ms :: rowR W.heap.size rv nR.text fv :: rowF W.heap.size fv d :: (d.reverse.map (sthing W.heap.size) ++ ts)))) ∨ (∃ (rv fv vv mv gv sv : Value) (d : List FieldD), Hid (d.map fkey = xs.map xkey) ∧ Hid (At W r [] wr (sbx r2 tn.text rv vv gv :: rowG W.heap.size gv nG.text ga.text sv :: rowT W.heap.size sv ss :: rowV W.heap.size vv nV.text mv :: rowM W.heap.size mv ms :: rowR W.heap.size rv nR.text fv :: rowF W.heap.size fv d :: (d.reverse.map (sthing W.heap.size) ++ ts)))))
  case atStart => exact .inl ⟨Nat.le_refl _, A5⟩
  case round =>
  clear A5
  rcases hrel with ⟨hg, A⟩ | ⟨hg, rv, fv, d, HD, A⟩ | ⟨hg, rv, fv, vv, mv, d, HD, A⟩ | ⟨rv, fv, vv, mv, gv, sv, d, HD, A⟩
  · obtain ⟨wa, r5, HWa, HRa, Aa⟩ := at_lay A (.cells #[.string ⟨#[114, 101, 99, 111, 114, 100]⟩, .string ⟨#[99, 104, 111, 105, 99, 101]⟩, .string ⟨#[115, 101, 114, 118, 105, 99, 101]⟩, .string ⟨#[115, 97, 103, 97]⟩] 9)
    have Ra : Hid (Rd wa 1 (.slice (some ⟨r5, 0, none⟩) 4 4) 4 ([⟨#[114, 101, 99, 111, 114, 100]⟩, ⟨#[99, 104, 111, 105, 99, 101]⟩, ⟨#[115, 101, 114, 118, 105, 99, 101]⟩, ⟨#[115, 97, 103, 97]⟩].flatMap sc)) := hide (by rw [HWa.out, HRa.out]; exact rd_new _ 9 _ [⟨#[114, 101, 99, 111, 114, 100]⟩, ⟨#[99, 104, 111, 105, 99, 101]⟩, ⟨#[115, 101, 114, 118, 105, 99, 101]⟩, ⟨#[115, 97, 103, 97]⟩] rfl)
    have Ca := hide (pwords_any (.slice (some ⟨r5, 0, none⟩) 4 4) [⟨#[114, 101, 99, 111, 114, 100]⟩, ⟨#[99, 104, 111, 105, 99, 101]⟩, ⟨#[115, 101, 114, 118, 105, 99, 101]⟩, ⟨#[115, 97, 103, 97]⟩] (by rw [hR.out.2]; simp) (by decide) Ra (hide hR.out.1) Aa)
    rw [hR.out.2] at Ca
    obtain ⟨pv, p0, p1, hbb⟩ := at_bad A
    obtain ⟨pA, pc, q0⟩ := at_list A
    clear p0
    go_wp2_with (rw [← HWa.out, ← HRa.out])
    refine Ca.out.mono ?_
    rintro e wb ⟨rfl, Ab⟩
    have Ab := at_erase Ab 0
    clear Ca Ra Aa HWa HRa p1 q0 hbb A
    go_upto_region 7 with (fail)
    have CN := hide (pname_any (hide hnR.out.1) hkw hnR.out.2 (at_drew Ab))
    obtain ⟨i1, hi1, hz1, hz2, hz3⟩ := info_parts info61w
    have y1 := (cell4 (at_get Ab 0 rfl)).2.1
    go_region_law (first
      | (go_simp; go_at_call 36; refine CN.out.mono ?_; rintro e wc ⟨rfl, Ac⟩; have x1 := (cell4 (at_get Ac 0 rfl)).2.1)
      | (go_simp; go_at_call 38; refine (pfields_any hkw hbR hxl hF Ac).mono ?_; rintro e wd ⟨fv0, d, rfl, HD, Ad⟩; obtain ⟨As, cs, rfl⟩ := (Rd.of_own (at_get Ad 0 rfl)).shape; have Ae := at_front (rowF W.heap.size (.slice As d.length cs) d :: d.reverse.map (sthing W.heap.size)) Ad; have x2 := (cell4 (at_get Ae 0 rfl)).2.1; have K2 : ∀ o : Obj, (wd.alloc o).cell? ⟨r2, 1, none⟩ = some (.slice none 0 0) := fun o => (cell4 (at_get (at_skip Ae o) 0 rfl)).2.1; obtain ⟨_, _, _, hbd⟩ := at_bad Ae)
      | (refine step_append1 rfl (.tmp 29) (.tmp 37) 22 rfl W.heap.size 61 i1 _ 3 48 Tryz.underlying22 hi1 hz1 hz2 hz3 rfl (by decide) (.slice none 0 0) 0 [] (by simp [Act.eval]) (World.ownsRow_nil _ _ _ _) [.string nR.text, .bool false, .slice As d.length cs] (by simp [Act.eval]) rfl (by intro u hu; simp at hu; rcases hu with rfl | rfl | rfl <;> rfl) (by omega) (by omega) hbd ?_; intro v' we ho t2 hnw; have Af := at_swap (at_newrow Ae ho t2 hnw); obtain ⟨A', c', rfl⟩ := (Rd.of_own ho).shape; have x3 := (cell4 (at_get Af 0 rfl)).2.1; have x4 := (box_cell (at_get Af 0 rfl) 1).2; clear ho t2 hnw))
    all_goals
      have Ag := at_set Af 0 rfl 1 (.slice A' (0 + 1) c')
      go_wp2_with fail
      go_roundg 2
      case measure => omega
      case rel => exact .inr (.inl ⟨by omega, _, _, d, HD, Ag⟩)
  · obtain ⟨wa, r5, HWa, HRa, Aa⟩ := at_lay A (.cells #[.string ⟨#[114, 101, 99, 111, 114, 100]⟩, .string ⟨#[99, 104, 111, 105, 99, 101]⟩, .string ⟨#[115, 101, 114, 118, 105, 99, 101]⟩, .string ⟨#[115, 97, 103, 97]⟩] 9)
    have Ra : Hid (Rd wa 1 (.slice (some ⟨r5, 0, none⟩) 4 4) 4 ([⟨#[114, 101, 99, 111, 114, 100]⟩, ⟨#[99, 104, 111, 105, 99, 101]⟩, ⟨#[115, 101, 114, 118, 105, 99, 101]⟩, ⟨#[115, 97, 103, 97]⟩].flatMap sc)) := hide (by rw [HWa.out, HRa.out]; exact rd_new _ 9 _ [⟨#[114, 101, 99, 111, 114, 100]⟩, ⟨#[99, 104, 111, 105, 99, 101]⟩, ⟨#[115, 101, 114, 118, 105, 99, 101]⟩, ⟨#[115, 97, 103, 97]⟩] rfl)
    have Ca := hide (pwords_any (.slice (some ⟨r5, 0, none⟩) 4 4) [⟨#[114, 101, 99, 111, 114, 100]⟩, ⟨#[99, 104, 111, 105, 99, 101]⟩, ⟨#[115, 101, 114, 118, 105, 99, 101]⟩, ⟨#[115, 97, 103, 97]⟩] (by rw [hV.out.2]; simp) (by decide) Ra (hide hV.out.1) Aa)
    rw [hV.out.2] at Ca
    obtain ⟨pv, p0, p1, hbb⟩ := at_bad A
    obtain ⟨pA, pc, q0⟩ := at_list A
    clear p0
    go_wp2_with (rw [← HWa.out, ← HRa.out])
    refine Ca.out.mono ?_
    rintro e wb ⟨rfl, Ab⟩
    have Ab := at_erase Ab 0
    clear Ca Ra Aa HWa HRa p1 q0 hbb A
    go_upto_region 11 with (fail)
    have CN := hide (pname_any (hide hnV.out.1) hkw hnV.out.2 (at_drew Ab))
    obtain ⟨i1, hi1, hz1, hz2, hz3⟩ := info_parts info83w
    have y1 := (cell4 (at_get Ab 0 rfl)).2.2.1
    go_region_law (first
      | (go_simp; go_at_call 36; refine CN.out.mono ?_; rintro e wc ⟨rfl, Ac⟩; have x1 := (cell4 (at_get Ac 0 rfl)).2.2.1)
      | (go_simp; go_at_call 40; refine (pmeths_any hkw hbV hml hM Ac).mono ?_; rintro e wd ⟨fv0, d2, rfl, HD2, Ad⟩; rw [HD2.out] at Ad; obtain ⟨As, cs, rfl⟩ := (Rd.of_own (at_get Ad 0 rfl)).shape; have Ae := at_front ([rowM W.heap.size (.slice As ms.length cs) ms]) Ad; have x2 := (cell4 (at_get Ae 0 rfl)).2.2.1; have K2 : ∀ o : Obj, (wd.alloc o).cell? ⟨r2, 2, none⟩ = some (.slice none 0 0) := fun o => (cell4 (at_get (at_skip Ae o) 0 rfl)).2.2.1; obtain ⟨_, _, _, hbd⟩ := at_bad Ae)
      | (refine step_append1 rfl (.tmp 57) (.tmp 65) 23 rfl W.heap.size 83 i1 _ 2 40 Tryz.underlying23 hi1 hz1 hz2 hz3 rfl (by decide) (.slice none 0 0) 0 [] (by simp [Act.eval]) (World.ownsRow_nil _ _ _ _) [.string nV.text, .slice As ms.length cs] (by simp [Act.eval]) rfl (by intro u hu; simp at hu; rcases hu with rfl | rfl <;> rfl) (by omega) (by omega) hbd ?_; intro v' we ho t2 hnw; have Af := at_swap (at_newrow Ae ho t2 hnw); obtain ⟨A', c', rfl⟩ := (Rd.of_own ho).shape; have x3 := (cell4 (at_get Af 0 rfl)).2.2.1; have x4 := (box_cell (at_get Af 0 rfl) 2).2; clear ho t2 hnw))
    all_goals
      have Ag := at_set Af 0 rfl 2 (.slice A' (0 + 1) c')
      go_wp2_with fail
      go_roundg 1
      case measure => omega
      case rel => exact .inr (.inr (.inl ⟨by omega, _, _, _, _, d, HD, Ag⟩))
  · obtain ⟨wa, r5, HWa, HRa, Aa⟩ := at_lay A (.cells #[.string ⟨#[114, 101, 99, 111, 114, 100]⟩, .string ⟨#[99, 104, 111, 105, 99, 101]⟩, .string ⟨#[115, 101, 114, 118, 105, 99, 101]⟩, .string ⟨#[115, 97, 103, 97]⟩] 9)
    have Ra : Hid (Rd wa 1 (.slice (some ⟨r5, 0, none⟩) 4 4) 4 ([⟨#[114, 101, 99, 111, 114, 100]⟩, ⟨#[99, 104, 111, 105, 99, 101]⟩, ⟨#[115, 101, 114, 118, 105, 99, 101]⟩, ⟨#[115, 97, 103, 97]⟩].flatMap sc)) := hide (by rw [HWa.out, HRa.out]; exact rd_new _ 9 _ [⟨#[114, 101, 99, 111, 114, 100]⟩, ⟨#[99, 104, 111, 105, 99, 101]⟩, ⟨#[115, 101, 114, 118, 105, 99, 101]⟩, ⟨#[115, 97, 103, 97]⟩] rfl)
    have Ca := hide (pwords_any (.slice (some ⟨r5, 0, none⟩) 4 4) [⟨#[114, 101, 99, 111, 114, 100]⟩, ⟨#[99, 104, 111, 105, 99, 101]⟩, ⟨#[115, 101, 114, 118, 105, 99, 101]⟩, ⟨#[115, 97, 103, 97]⟩] (by rw [hG.out.2]; simp) (by decide) Ra (hide hG.out.1) Aa)
    rw [hG.out.2] at Ca
    obtain ⟨pv, p0, p1, hbb⟩ := at_bad A
    obtain ⟨pA, pc, q0⟩ := at_list A
    clear p0
    go_wp2_with (rw [← HWa.out, ← HRa.out])
    refine Ca.out.mono ?_
    rintro e wb ⟨rfl, Ab⟩
    have Ab := at_erase Ab 0
    clear Ca Ra Aa HWa HRa p1 q0 hbb A
    go_upto_region 13 with (fail)
    have CN := hide (pname_any (hide hnG.out.1) hkw hnG.out.2 (at_drew Ab))
    obtain ⟨i1, hi1, hz1, hz2, hz3⟩ := info_parts info88w
    have y1 := (cell4 (at_get Ab 0 rfl)).2.2.2
    go_region_law (first
      | (go_simp; go_at_call 36; refine CN.out.mono ?_; rintro e wc ⟨rfl, Ac⟩; have x1 := (cell4 (at_get Ac 0 rfl)).2.2.2)
      | (go_simp; go_at_call 42; refine (parg_any hkw hg1 hga hg2 Ac).mono ?_; rintro e wc2 ⟨rfl, Ac2⟩; have x12 := (cell4 (at_get Ac2 0 rfl)).2.2.2)
      | (go_simp; go_at_call 43; refine (psteps_any hkw hbG hsl hS Ac2).mono ?_; rintro e wd ⟨fv0, d2, rfl, HD2, Ad⟩; rw [HD2.out] at Ad; obtain ⟨As, cs, rfl⟩ := (Rd.of_own (at_get Ad 0 rfl)).shape; have Ae := at_front ([rowT W.heap.size (.slice As ss.length cs) ss]) Ad; have x2 := (cell4 (at_get Ae 0 rfl)).2.2.2; have K2 : ∀ o : Obj, (wd.alloc o).cell? ⟨r2, 3, none⟩ = some (.slice none 0 0) := fun o => (cell4 (at_get (at_skip Ae o) 0 rfl)).2.2.2; obtain ⟨_, _, _, hbd⟩ := at_bad Ae)
      | (refine step_append1 rfl (.tmp 71) (.tmp 81) 24 rfl W.heap.size 88 i1 _ 3 56 Tryz.underlying24 hi1 hz1 hz2 hz3 rfl (by decide) (.slice none 0 0) 0 [] (by simp [Act.eval]) (World.ownsRow_nil _ _ _ _) [.string nG.text, .string ga.text, .slice As ss.length cs] (by simp [Act.eval]) rfl (by intro u hu; simp at hu; rcases hu with rfl | rfl | rfl <;> rfl) (by omega) (by omega) hbd ?_; intro v' we ho t2 hnw; have Af := at_swap (at_newrow Ae ho t2 hnw); obtain ⟨A', c', rfl⟩ := (Rd.of_own ho).shape; have x3 := (cell4 (at_get Af 0 rfl)).2.2.2; have x4 := (box_cell (at_get Af 0 rfl) 3).2; clear ho t2 hnw))
    all_goals
      have Ag := at_set Af 0 rfl 3 (.slice A' (0 + 1) c')
      go_wp2_with fail
      go_roundg 0
      case measure => omega
      case rel => exact .inr (.inr (.inr ⟨_, _, _, _, _, _, d, HD, Ag⟩))
  · obtain ⟨pA, pc, q0⟩ := at_nil A
    obtain ⟨pv, p0, p1, hbb⟩ := at_bad A
    clear p0 hbb
    obtain ⟨Ag0, cg0, rfl⟩ := (Rd.of_own (at_get A 1 rfl)).shape
    obtain ⟨Av0, cv0, rfl⟩ := (Rd.of_own (at_get A 3 rfl)).shape
    obtain ⟨Ar0, cr0, rfl⟩ := (Rd.of_own (at_get A 5 rfl)).shape
    obtain ⟨c0, c1, c2, c3⟩ := cell4 (at_get A 0 rfl)
    have f0 := (box_cell (at_get A 0 rfl) 0).2
    have f1 := (box_cell (at_get A 0 rfl) 1).2
    have f2 := (box_cell (at_get A 0 rfl) 2).2
    have f3 := (box_cell (at_get A 0 rfl) 3).2
    have AZ := at_set (at_set (at_set (at_set A 0 rfl 0 (.string tn.text)) 0 rfl 1 (.slice Ar0 1 cr0)) 0 rfl 2 (.slice Av0 1 cv0)) 0 rfl 3 (.slice Ag0 1 cg0)
    obtain ⟨z0, z1, z2, z3⟩ := cell4 (at_get AZ 0 rfl)
    go_wp2_with fail
    try simp only [Exit.inBlock, Exit.then]
    refine bodyPost_ret (v := .agg #[.string tn.text, .slice Ar0 1 cr0, .slice Av0 1 cv0, .slice Ag0 1 cg0]) (by simp [results, Tryz.results25, go_sem, z0, z1, z2, z3]) rfl ?_
    exact ⟨_, _, _, _, _, _, d, r2, rfl, HD, AZ⟩
end
end Go.Proofs.YtnljdcghaecdaaaGreatDoor
/-
  A whole text parsed.
-/
namespace Go.Proofs.YtnljdcghaecdaaaGreatDoor
open Go.RowKit Go.Lib Go.Maps
attribute [local go_sem] Oper.semAt_some

section
variable {W w w' : World} {r : Nat} {l : List TokD} {ts : List Thing}
theorem at_row (h : Hid (At W r l w ts)) {B e m k : Nat} {v : Value} {xs : List Value} (hm : row B e m v k xs ∈ ts) {S : Nat → Prop} (hr : ∀ k, S k → k < W.heap.size) (T : Turn S w w') : w'.ownsRow B e m v k xs := by
  obtain ⟨A, c, hc, hr2, hL⟩ := h.out
  obtain ⟨n, hn, e2⟩ := List.getElem_of_mem hm
  have hn2 : ts[n]? = some (row B e m v k xs) := by rw [List.getElem?_eq_getElem hn, e2]
  exact ownsRow_turn (hL.get (n + 1) hn2) T (fun g hg e => by have h1 : W.heap.size ≤ g := hL.high (n + 1) _ hn2 g hg; have h2 := hr g e; omega)
theorem sch_of {n nR nV nG ga : ByteArray} {rv fv vv mv gv sv : Value} {d : List FieldD} {ms : List MethD} {ss : List StepD} {r2 : Nat} {S : Nat → Prop} (hr : ∀ k, S k → k < W.heap.size) (T : Turn S w w')
    (h : Hid (At W r l w (sbx r2 n rv vv gv :: rowG W.heap.size gv nG ga sv :: rowT W.heap.size sv ss :: rowV W.heap.size vv nV mv :: rowM W.heap.size mv ms :: rowR W.heap.size rv nR fv :: rowF W.heap.size fv d :: (d.reverse.map (sthing W.heap.size) ++ ts)))) :
    SchAt w' ⟨n, [⟨nR, false, d, fv⟩], rv, [⟨nV, ms, mv⟩], vv, [⟨nG, ga, ss, sv⟩], gv⟩ := by
  have hG := at_row h (B := W.heap.size) (e := 88) (m := 3) (k := 1) (v := gv) (xs := [.string nG, .string ga, sv]) (by simp [rowG]) hr T
  have hT := at_row h (B := W.heap.size) (e := 90) (m := 3) (k := ss.length) (v := sv) (xs := ss.flatMap stepc) (by simp [rowT]) hr T
  have hV := at_row h (B := W.heap.size) (e := 83) (m := 2) (k := 1) (v := vv) (xs := [.string nV, mv]) (by simp [rowV]) hr T
  have hM := at_row h (B := W.heap.size) (e := 85) (m := 5) (k := ms.length) (v := mv) (xs := ms.flatMap methc) (by simp [rowM]) hr T
  have hR := at_row h (B := W.heap.size) (e := 61) (m := 3) (k := 1) (v := rv) (xs := [.string nR, .bool false, fv]) (by simp [rowR]) hr T
  have hF := at_row h (B := W.heap.size) (e := 63) (m := 2) (k := d.length) (v := fv) (xs := d.flatMap fieldc) (by simp [rowF]) hr T
  have hS : ∀ f ∈ d, w'.ownsRow W.heap.size 44 2 f.tv f.ts.length (f.ts.flatMap sortc) := fun f hf => at_row h (by
    have : sthing W.heap.size f ∈ d.reverse.map (sthing W.heap.size) := List.mem_map.2 ⟨f, List.mem_reverse.2 hf, rfl⟩
    show sthing W.heap.size f ∈ _
    simp only [List.mem_cons, List.mem_append]
    exact .inr (.inr (.inr (.inr (.inr (.inr (.inr (.inl this)))))))) hr T
  refine ⟨⟨Rd.of_own hR, fun x hx => ?_⟩, ⟨Rd.of_own hV, fun x hx => ?_⟩, ⟨Rd.of_own hG, fun x hx => ?_⟩⟩
  · simp at hx
    subst hx
    exact ⟨Rd.of_own hF, fun f hf => ⟨Rd.of_own (hS f hf), Capd.own (hS f hf)⟩⟩
  · simp at hx
    subst hx
    exact Rd.of_own hM
  · simp at hx
    subst hx
    exact Rd.of_own hT
end
def ParTo (n nR nV nG ga : ByteArray) (ks : List (ByteArray × List SortD)) (ms : List MethD) (ss : List StepD) (w : World) (v : Value → Value) (e : Ending) (w' : World) : Prop :=
  ∃ (rv fv vv mv gv sv : Value) (d : List FieldD), e = .returned (v (.agg #[.string n, rv, vv, gv])) ∧ d.map fkey = ks ∧ (∀ (S : Nat → Prop) (w'' : World), (∀ k, S k → k < w.heap.size) → Turn S w' w'' → SchAt w'' ⟨n, [⟨nR, false, d, fv⟩], rv, [⟨nV, ms, mv⟩], vv, [⟨nG, ga, ss, sv⟩], gv⟩) ∧ Turn (fun _ => False) w w'
section
variable {W w w' : World}
set_option maxRecDepth 100000 in
set_option maxHeartbeats 16000000 in
theorem whole_any {s : ByteArray} {tm tn te tR nR bR tV nV bV tG nG g1 ga g2 bG : TokD} {mF mV mG : List TokD} {xs : List (ByteArray × Int)} {ms : List MethD} {ss : List StepD} (hkw : Hid (Kw w)) (hw : Hid (SignK ⟨#[109, 111, 100, 117, 108, 101]⟩ tm)) (hn : Hid (NameK tn)) (hs : Hid (SignK ⟨#[59]⟩ te)) (hR : Hid (tR.kind = 1 ∧ tR.text = ⟨#[114, 101, 99, 111, 114, 100]⟩)) (hnR : Hid (NameK nR)) (hbR : Hid (SignK ⟨#[123]⟩ bR)) (hxl : xs.length ≤ 1000) (hF : Hid (Runs FK mF xs (tV :: nV :: bV :: mV)))
    (hV : Hid (tV.kind = 1 ∧ tV.text = ⟨#[115, 101, 114, 118, 105, 99, 101]⟩)) (hnV : Hid (NameK nV)) (hbV : Hid (SignK ⟨#[123]⟩ bV)) (hml : ms.length ≤ 1000) (hM : Hid (Runs MK mV ms (tG :: nG :: g1 :: ga :: g2 :: bG :: mG)))
    (hG : Hid (tG.kind = 1 ∧ tG.text = ⟨#[115, 97, 103, 97]⟩)) (hnG : Hid (NameK nG)) (hg1 : Hid (SignK ⟨#[40]⟩ g1)) (hga : Hid (NameK ga)) (hg2 : Hid (SignK ⟨#[41]⟩ g2)) (hbG : Hid (SignK ⟨#[123]⟩ bG)) (hsl : ss.length ≤ 1000) (hS : Hid (Runs SK mG ss []))
    (hsz : s.size ≤ 60000) (hlen : (tm :: tn :: te :: tR :: nR :: bR :: mF).length ≤ 100000) (htk : Toks s 0 (tm :: tn :: te :: tR :: nR :: bR :: mF)) :
    Calls Tryz.prog 24 #[.string s, .func (.func 25) #[] #[]] w (ParTo tn.text nR.text nV.text nG.text ga.text (xs.map xkey) ms ss w (fun v => .tuple #[v, .int .i64 0, .int .i64 0])) := by
  obtain ⟨w1, r4, B4, HW1, HR4, HB4, S1⟩ := lay (hide (Lie.start w)) (.cells #[.string ⟨#[]⟩, .slice none 0 0, .slice none 0 0, .slice none 0 0] 26)
  obtain ⟨w2, r7, B7, HW2, HR7, HB7, S2⟩ := lay S1 (.cells #[.string ⟨#[]⟩, .slice none 0 0, .slice none 0 0, .slice none 0 0] 26)
  have CA := hide (all_any s _ w2 hsz hlen htk)
  go_enter Tryz.func24, Tryz.ntmps24
  go_upto_region 2 with (fail)
  rw [← HW1.out, ← HR4.out]
  have h74 : r4 + 1 = r7 := by rw [HR7.out, HW1.out, HR4.out]; simp
  rw [← HW2.out, h74]
  go_wp2_with fail
  refine CA.out.mono ?_
  rintro e w3 ⟨v, rfl, S3⟩
  have R3 := S3.out.get 0 rfl
  obtain ⟨A, c, rfl⟩ := (Rd.of_own R3).shape
  have hcap := (Capd.own R3).le
  have HR3 := hide (Rd.of_own R3)
  clear R3
  have T3 := lie_turn S3
  have S4 := hide (S2.out.stay T3)
  have hkw3 : Hid (Kw w3) := hide (kw_on hkw (lie_turn S4))
  obtain ⟨w5, r9, B9, HW5, HR9, HB9, S5⟩ := lay (hide (Lie.start w3)) (.cells #[.slice A _ c, .bool false] 95)
  rw [HB9.out] at S5
  have A5 : Hid (At w3 r9 (tm :: tn :: te :: tR :: nR :: bR :: mF) w5 []) := hide ⟨A, c, hcap, HR3.out, S5.out⟩
  have LT := lie_turn S4
  have CS := hide (pschema_any hkw3 hw hn hs hR hnR hbR hxl hF hV hnV hbV hml hM hG hnG hg1 hga hg2 hbG hsl hS A5)
  go_upto_region 6 with (fail)
  have hw5 := HW5.out
  simp only [List.length_cons] at hw5
  rw [← hw5, ← HR9.out]
  clear hw5
  go_wp2_with fail
  refine CS.out.mono ?_
  rintro e w7 ⟨rv, fv, vv, mv, gv, sv, d, r2, rfl, HD, A7⟩
  obtain ⟨Ag0, cg0, rfl⟩ := (Rd.of_own (at_get A7 1 rfl)).shape
  obtain ⟨Av0, cv0, rfl⟩ := (Rd.of_own (at_get A7 3 rfl)).shape
  obtain ⟨Ar0, cr0, rfl⟩ := (Rd.of_own (at_get A7 5 rfl)).shape
  have T37 : Turn (fun _ => False) w3 w7 := by obtain ⟨_, _, _, _, hL⟩ := A7.out; exact lie_turn (hide hL)
  have S7 := hide (S4.out.stay T37)
  rw [HB4.out] at S7
  obtain ⟨c0, c1, c2, c3⟩ := cell4 (S7.out.get 1 rfl)
  have f0 := (box_cell (S7.out.get 1 rfl) 0).2
  have f1 := (box_cell (S7.out.get 1 rfl) 1).2
  have f2 := (box_cell (S7.out.get 1 rfl) 2).2
  have f3 := (box_cell (S7.out.get 1 rfl) 3).2
  have S8 := hide ((((S7.out.setBox 1 rfl 0 (.string tn.text)).setBox 1 rfl 1 (.slice Ar0 1 cr0)).setBox 1 rfl 2 (.slice Av0 1 cv0)).setBox 1 rfl 3 (.slice Ag0 1 cg0))
  have T78 : Turn (fun k => k = r4) w7 ((((w7.setCell ⟨r4, 0, none⟩ (.string tn.text)).setCell ⟨r4, 1, none⟩ (.slice Ar0 1 cr0)).setCell ⟨r4, 2, none⟩ (.slice Av0 1 cv0)).setCell ⟨r4, 3, none⟩ (.slice Ag0 1 cg0)) :=
    ((((Turn.refl (fun k => k = r4) w7).setCell (p := ⟨r4, 0, none⟩) (fun _ => rfl) _).setCell (p := ⟨r4, 1, none⟩) (fun _ => rfl) _).setCell (p := ⟨r4, 2, none⟩) (fun _ => rfl) _).setCell (p := ⟨r4, 3, none⟩) (fun _ => rfl) _
  go_upto_region 7 with (fail)
  generalize (((w7.setCell ⟨r4, 0, none⟩ (.string tn.text)).setCell ⟨r4, 1, none⟩ (.slice Ar0 1 cr0)).setCell ⟨r4, 2, none⟩ (.slice Av0 1 cv0)).setCell ⟨r4, 3, none⟩ (.slice Ag0 1 cg0) = w8 at *
  clear c0 c1 c2 c3 f0 f1 f2 f3
  obtain ⟨c0, c1, c2, c3⟩ := cell4 (S8.out.get 1 rfl)
  have hr43 : r4 < w3.heap.size := by have := S4.out.get 1 rfl; rw [HB4.out] at this; exact box_lt this
  obtain ⟨pA, pc, q0⟩ := at_nil A7
  obtain ⟨pv, p0, p1, hbb⟩ := at_bad A7
  have hr9 : r9 < w7.heap.size ∧ w3.heap.size ≤ r9 := by obtain ⟨_, _, _, _, hL⟩ := A7.out; exact ⟨box_lt (hL.get 0 rfl), hL.high 0 _ rfl r9 rfl⟩
  have q8 := (T78.cell (p := ⟨r9, 0, none⟩) hr9.1 (by show ¬ r9 = r4; omega)).trans q0
  have p8 := (T78.cell (p := ⟨r9, 1, none⟩) hr9.1 (by show ¬ r9 = r4; omega)).trans p1
  clear q0 p0 p1 hbb hr9
  have f0 := (box_cell (S8.out.get 1 rfl) 0).2
  have f1 := (box_cell (S8.out.get 1 rfl) 1).2
  have f2 := (box_cell (S8.out.get 1 rfl) 2).2
  have f3 := (box_cell (S8.out.get 1 rfl) 3).2
  have S9 := hide ((((S8.out.setBox 1 rfl 0 (.string tn.text)).setBox 1 rfl 1 (.slice Ar0 1 cr0)).setBox 1 rfl 2 (.slice Av0 1 cv0)).setBox 1 rfl 3 (.slice Ag0 1 cg0))
  have T79 : Turn (fun k => k = r4) w7 ((((w8.setCell ⟨r4, 0, none⟩ (.string tn.text)).setCell ⟨r4, 1, none⟩ (.slice Ar0 1 cr0)).setCell ⟨r4, 2, none⟩ (.slice Av0 1 cv0)).setCell ⟨r4, 3, none⟩ (.slice Ag0 1 cg0)) :=
    (((T78.setCell (p := ⟨r4, 0, none⟩) (fun _ => rfl) _).setCell (p := ⟨r4, 1, none⟩) (fun _ => rfl) _).setCell (p := ⟨r4, 2, none⟩) (fun _ => rfl) _).setCell (p := ⟨r4, 3, none⟩) (fun _ => rfl) _
  have hSC := fun (S : Nat → Prop) (w'' : World) (hS2 : ∀ k, S k → k < w.heap.size) (TS : Turn S _ w'') => sch_of (S := fun k => k = r4 ∨ S k) (fun k hk => by
    rcases hk with rfl | hk
    · exact hr43
    · exact Nat.lt_of_lt_of_le (hS2 k hk) (Nat.le_trans S2.out.base_le T3.size)) ((T79.mono (fun _ _ h => .inl h)).step TS (fun _ _ h => .inr h)) A7
  have hSC := hide hSC
  obtain ⟨z0, z1, z2, z3⟩ := cell4 (S9.out.get 1 rfl)
  clear T78 T79 A7
  go_wp2_with fail
  generalize (((w8.setCell ⟨r4, 0, none⟩ (.string tn.text)).setCell ⟨r4, 1, none⟩ (.slice Ar0 1 cr0)).setCell ⟨r4, 2, none⟩ (.slice Av0 1 cv0)).setCell ⟨r4, 3, none⟩ (.slice Ag0 1 cg0) = w9 at *
  clear c0 c1 c2 c3 f0 f1 f2 f3 q8 p8
  try simp only [Exit.inBlock, Exit.then]
  refine bodyPost_ret (v := .tuple #[.agg #[.string tn.text, .slice Ar0 1 cr0, .slice Av0 1 cv0, .slice Ag0 1 cg0], .int .i64 0, .int .i64 0]) (by simp [results, Tryz.results24, go_sem, z0, z1, z2, z3]) rfl ?_
  exact ⟨_, _, _, _, _, _, d, rfl, HD.out, hSC.out, lie_turn S9⟩
end
end Go.Proofs.YtnljdcghaecdaaaGreatDoor
namespace Go.Proofs.YtnljdcghaecdaaaGreatDoor
open Go.RowKit Go.Lib Go.Maps
attribute [local go_sem] Oper.semAt_some

section
variable {W w w' : World}
set_option maxRecDepth 100000 in
set_option maxHeartbeats 16000000 in
theorem parse_any {s : ByteArray} {tm tn te tR nR bR tV nV bV tG nG g1 ga g2 bG : TokD} {mF mV mG : List TokD} {xs : List (ByteArray × Int)} {ms : List MethD} {ss : List StepD} (hkw : Hid (Kw w)) (hw : Hid (SignK ⟨#[109, 111, 100, 117, 108, 101]⟩ tm)) (hn : Hid (NameK tn)) (hs : Hid (SignK ⟨#[59]⟩ te)) (hR : Hid (tR.kind = 1 ∧ tR.text = ⟨#[114, 101, 99, 111, 114, 100]⟩)) (hnR : Hid (NameK nR)) (hbR : Hid (SignK ⟨#[123]⟩ bR)) (hxl : xs.length ≤ 1000) (hF : Hid (Runs FK mF xs (tV :: nV :: bV :: mV)))
    (hV : Hid (tV.kind = 1 ∧ tV.text = ⟨#[115, 101, 114, 118, 105, 99, 101]⟩)) (hnV : Hid (NameK nV)) (hbV : Hid (SignK ⟨#[123]⟩ bV)) (hml : ms.length ≤ 1000) (hM : Hid (Runs MK mV ms (tG :: nG :: g1 :: ga :: g2 :: bG :: mG)))
    (hG : Hid (tG.kind = 1 ∧ tG.text = ⟨#[115, 97, 103, 97]⟩)) (hnG : Hid (NameK nG)) (hg1 : Hid (SignK ⟨#[40]⟩ g1)) (hga : Hid (NameK ga)) (hg2 : Hid (SignK ⟨#[41]⟩ g2)) (hbG : Hid (SignK ⟨#[123]⟩ bG)) (hsl : ss.length ≤ 1000) (hS : Hid (Runs SK mG ss []))
    (hsz : s.size ≤ 60000) (hlen : (tm :: tn :: te :: tR :: nR :: bR :: mF).length ≤ 100000) (htk : Toks s 0 (tm :: tn :: te :: tR :: nR :: bR :: mF)) :
    Calls Tryz.prog 11 #[.string s] w (ParTo tn.text nR.text nV.text nG.text ga.text (xs.map xkey) ms ss w (fun v => .tuple #[v, .int .i64 0, .int .i64 0])) := by
  obtain ⟨w1, r2, B2, HW1, HR2, HB2, S1⟩ := lay (hide (Lie.start w)) (.cells #[.string ⟨#[]⟩, .slice none 0 0, .slice none 0 0, .slice none 0 0] 26)
  have CW := hide (whole_any (w := w1) (hide (kw_on hkw (lie_turn S1))) hw hn hs hR hnR hbR hxl hF hV hnV hbV hml hM hG hnG hg1 hga hg2 hbG hsl hS hsz hlen htk)
  clear hw hn hs hR hnR hbR hF hV hnV hbV hM hG hnG hg1 hga hg2 hbG hS htk
  go_enter Tryz.func11, Tryz.ntmps11
  go_upto_region 1 with (fail)
  rw [← HW1.out, ← HR2.out]
  go_wp2_with fail
  refine CW.out.mono ?_
  rintro e w2 ⟨rv, fv, vv, mv, gv, sv, d, rfl, HD, HSC, T12⟩
  have HS0 := HSC (fun _ => False) w2 (fun _ h => h.elim) (Turn.refl _ _)
  obtain ⟨Ag0, cg0, eg⟩ : ∃ A c, gv = .slice A 1 c := HS0.gs.1.shape
  obtain ⟨Av0, cv0, ev⟩ : ∃ A c, vv = .slice A 1 c := HS0.vs.1.shape
  obtain ⟨Ar0, cr0, er⟩ : ∃ A c, rv = .slice A 1 c := HS0.rs.1.shape
  clear HS0
  subst eg ev er
  have HSC := hide HSC
  have HD := hide HD
  have S2 := S1.out.stay T12
  rw [HB2.out] at S2
  have S2 := hide S2
  clear CW
  obtain ⟨c0, c1, c2, c3⟩ := cell4 (S2.out.get 0 rfl)
  have f0 := (box_cell (S2.out.get 0 rfl) 0).2
  have f1 := (box_cell (S2.out.get 0 rfl) 1).2
  have f2 := (box_cell (S2.out.get 0 rfl) 2).2
  have f3 := (box_cell (S2.out.get 0 rfl) 3).2
  have hlt : r2 < w1.heap.size := by have := S1.out.get 0 rfl; rw [HB2.out] at this; exact box_lt this
  have S3 := hide ((((S2.out.setBox 0 rfl 0 (.string tn.text)).setBox 0 rfl 1 (.slice Ar0 1 cr0)).setBox 0 rfl 2 (.slice Av0 1 cv0)).setBox 0 rfl 3 (.slice Ag0 1 cg0))
  have T23 : Turn (fun k => k = r2) w2 ((((w2.setCell ⟨r2, 0, none⟩ (.string tn.text)).setCell ⟨r2, 1, none⟩ (.slice Ar0 1 cr0)).setCell ⟨r2, 2, none⟩ (.slice Av0 1 cv0)).setCell ⟨r2, 3, none⟩ (.slice Ag0 1 cg0)) :=
    ((((Turn.refl (fun k => k = r2) w2).setCell (p := ⟨r2, 0, none⟩) (fun _ => rfl) _).setCell (p := ⟨r2, 1, none⟩) (fun _ => rfl) _).setCell (p := ⟨r2, 2, none⟩) (fun _ => rfl) _).setCell (p := ⟨r2, 3, none⟩) (fun _ => rfl) _
  have HS3 := hide (fun (S : Nat → Prop) (w'' : World) (hS2 : ∀ k, S k → k < w.heap.size) (TS : Turn S _ w'') => HSC.out (fun k => k = r2 ∨ S k) w'' (fun k hk => by
    rcases hk with rfl | hk
    · exact hlt
    · exact Nat.lt_of_lt_of_le (hS2 k hk) S1.out.base_le) ((T23.mono (fun _ _ h => .inl h)).step TS (fun _ _ h => .inr h)))
  obtain ⟨z0, z1, z2, z3⟩ := cell4 (S3.out.get 0 rfl)
  clear T23 HSC hlt
  go_wp2_with fail
  generalize (((w2.setCell ⟨r2, 0, none⟩ (.string tn.text)).setCell ⟨r2, 1, none⟩ (.slice Ar0 1 cr0)).setCell ⟨r2, 2, none⟩ (.slice Av0 1 cv0)).setCell ⟨r2, 3, none⟩ (.slice Ag0 1 cg0) = w9 at *
  clear c0 c1 c2 c3 f0 f1 f2 f3
  try simp only [Exit.inBlock, Exit.then]
  refine bodyPost_ret (v := .tuple #[.agg #[.string tn.text, .slice Ar0 1 cr0, .slice Av0 1 cv0, .slice Ag0 1 cg0], .int .i64 0, .int .i64 0]) (by simp [results, Tryz.results11, go_sem, z0, z1, z2, z3]) rfl ?_
  exact ⟨_, _, _, _, _, _, d, rfl, HD.out, HS3.out, lie_turn S3⟩
end
end Go.Proofs.YtnljdcghaecdaaaGreatDoor
