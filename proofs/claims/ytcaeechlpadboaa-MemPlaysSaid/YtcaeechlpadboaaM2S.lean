/-
  A table of texts: what reads it.
-/
import Derived.Test.YtcaeechlpadboaaM1S
namespace Go.Proofs.Ytcaeechlpadboaa.MS
open Go.RowKit Go.Lib

abbrev mobj (v : Value) (lent : Bool) : Obj := .cells #[v, .bool lent] 69 (0, 0)
abbrev pt (T : Nat) : Value := .pointer (some ⟨T, 0, none⟩)
/-- There lies a table. -/
structure At (base : Nat) (ts : List Thing) (j k T : Nat) (v : Value) (lent : Bool) (xs : List Ent) : Prop where
  hj : ts[j]? = some (box T (mobj v lent))
  hk : ts[k]? = some (row base 83 2 v xs.length (cells xs))
  hs : Srt xs
  hn : xs.length ≤ 100000
theorem mcells {w : World} {T : Nat} {v : Value} {lent : Bool} (h : w.heap[T]? = some (mobj v lent)) : w.cell? ⟨T, 0, none⟩ = some v ∧ w.cell? ⟨T, 1, none⟩ = some (.bool lent) ∧ w.frozen? ⟨T, 0, none⟩ = false ∧ w.frozen? ⟨T, 1, none⟩ = false := by
  simp [World.cell?, World.frozen?, h]
theorem At.rd {base : Nat} {w0 w : World} {ts : List Thing} {j k T : Nat} {v : Value} {lent : Bool} {xs : List Ent} (a : At base ts j k T v lent xs) (h : Lie base w0 w ts) :
    ∃ A c, v = .slice A xs.length c ∧ Rd w 2 (.slice A xs.length c) xs.length (cells xs) := by
  have h1 := Rd.of_own (h.get k a.hk)
  obtain ⟨A, c, rfl⟩ := h1.shape
  exact ⟨A, c, rfl, h1⟩
/-- What is told, and what lies there. -/
def TL (v : Value) (base : Nat) (w0 : World) (ts : List Thing) (e : Ending) (w' : World) : Prop := e = .returned v ∧ Hid (Lie base w0 w' ts)
/-- A key's value. -/
def get (xs : List Ent) (k : ByteArray) : V × Bool := if has xs k then ((xs[pos xs k]?.map (·.2)).getD (⟨#[]⟩ : ByteArray), true) else ((⟨#[]⟩ : ByteArray), false)
/-- The greatest key that is not above one. -/
def floor (xs : List Ent) (k : ByteArray) : ByteArray × V × Bool :=
  if pos xs k + (if has xs k then 1 else 0) = 0 then (⟨#[]⟩, (⟨#[]⟩ : ByteArray), false) else
    (((xs[pos xs k + (if has xs k then 1 else 0) - 1]?.map (·.1)).getD ⟨#[]⟩), ((xs[pos xs k + (if has xs k then 1 else 0) - 1]?.map (·.2)).getD (⟨#[]⟩ : ByteArray)), true)

section
variable {base : Nat} {w0 w : World} {ts : List Thing} {j k T : Nat} {v : Value} {lent : Bool} {xs : List Ent}
set_option maxRecDepth 100000 in
theorem find_nil (key : ByteArray) (w : World) : Calls Try.prog 50 #[.pointer none, .string key] w (Same (.tuple #[.int .i64 0, .bool false]) w) := by
  go_enter Try.func50, Try.ntmps50
  go_wp2_with fail
  go_ret2
  exact ⟨rfl, Turn.refl _ w⟩
set_option maxRecDepth 100000 in
theorem find_any (key : ByteArray) (a : At base ts j k T v lent xs) (h : Lie base w0 w ts) : Calls Try.prog 50 #[pt T, .string key] w (TL (.tuple #[.int .i64 (pos xs key : Nat), .bool (has xs key)]) base w0 ts) := by
  obtain ⟨A, c, rfl, hr⟩ := a.rd h
  obtain ⟨c0, c1, f0, f1⟩ := mcells (h.get j a.hj)
  have hsr := search_any xs a.hs key A c (by have := a.hn; omega) w hr
  have H := hide h
  have HSR := hide hsr
  clear h hr a hsr
  go_enter Try.func50, Try.ntmps50
  go_wp2_with fail
  refine HSR.out.mono ?_
  rintro e w1 ⟨rfl, t1⟩
  have T1 := hide (H.out.stay t1)
  clear t1
  go_wp2_with fail
  go_ret2
  exact ⟨rfl, T1⟩
set_option maxRecDepth 100000 in
theorem len_nil (w : World) : Calls Try.prog 28 #[.pointer none] w (Same (.int .i64 0) w) := by
  go_enter Try.func28, Try.ntmps28
  go_wp2_with fail
  go_ret
  exact ⟨rfl, Turn.refl _ w⟩
set_option maxRecDepth 100000 in
theorem len_any (a : At base ts j k T v lent xs) (h : Lie base w0 w ts) : Calls Try.prog 28 #[pt T] w (TL (.int .i64 (xs.length : Nat)) base w0 ts) := by
  obtain ⟨A, c, rfl, hr⟩ := a.rd h
  obtain ⟨c0, c1, f0, f1⟩ := mcells (h.get j a.hj)
  have H := hide h
  clear h hr a
  go_enter Try.func28, Try.ntmps28
  go_wp2_with fail
  go_ret
  exact ⟨rfl, H⟩
set_option maxRecDepth 100000 in
theorem new_any (h : Lie base w0 w ts) : Calls Try.prog 12 #[] w fun e w' => ∃ T, e = .returned (pt T) ∧ Hid (Lie base w0 w' (row base 83 2 (.slice none 0 0) 0 [] :: box T (mobj (.slice none 0 0) false) :: ts)) := by
  have H := hide h
  clear h
  go_enter Try.func12, Try.ntmps12
  go_wp2_with fail
  go_ret
  refine ⟨w.heap.size, rfl, hide ?_⟩
  refine (H.out.alloc _).push (Turn.refl _ _) (World.ownsRow_nil _ _ _ _) ?_
  intro k hk
  cases hk
set_option maxRecDepth 100000 in
theorem get_nil (key : ByteArray) (w : World) : Calls Try.prog 27 #[.pointer none, .string key] w (Same (.tuple #[vv (⟨#[]⟩ : ByteArray), .bool false]) w) := by
  go_enter Try.func27, Try.ntmps27
  go_wp2_with fail
  refine (find_nil key w).mono ?_
  rintro e w1 ⟨rfl, t1⟩
  have T1 := hide t1
  clear t1
  go_wp2_with fail
  go_ret2
  exact ⟨rfl, T1.out⟩
set_option maxRecDepth 100000 in
theorem get_any (key : ByteArray) (a : At base ts j k T v lent xs) (h : Lie base w0 w ts) : Calls Try.prog 27 #[pt T, .string key] w (TL (.tuple #[vv (get xs key).1, .bool (get xs key).2]) base w0 ts) := by
  have hf := find_any key a h
  have HF := hide hf
  have AA := hide a
  clear hf h
  by_cases hh : has xs key = true
  · obtain ⟨hp, hx⟩ := (has_pos xs key a.hs).1 hh
    have HG : Hid (get xs key = ((xs[pos xs key]).2, true)) := hide (by unfold get; rw [if_pos hh, List.getElem?_eq_getElem hp]; rfl)
    have HH := hide hh
    have HP := hide hp
    have hp1 : pos xs key < xs.length := hp
    have hn := a.hn
    clear a hh
    go_enter Try.func27, Try.ntmps27
    go_wp2_with fail
    refine HF.out.mono ?_
    rintro e w1 ⟨rfl, H⟩
    rw [HH.out]
    obtain ⟨A, c, rfl, hr⟩ := AA.out.rd H.out
    obtain ⟨c0, c1, f0, f1⟩ := mcells (H.out.get j AA.out.hj)
    obtain ⟨b, o, rfl, hb, hc⟩ := cell_at xs hr (by omega)
    obtain ⟨k0, k1⟩ := hc _ hp1
    clear hc hr hx
    generalize pos xs key = q at *
    go_wp2_with fail
    go_ret2
    exact ⟨by rw [HG.out]; rfl, H⟩
  · have HG : Hid (get xs key = ((⟨#[]⟩ : ByteArray), false)) := hide (by unfold get; rw [if_neg hh])
    have HH := hide (Bool.eq_false_iff.2 hh)
    clear a hh
    go_enter Try.func27, Try.ntmps27
    go_wp2_with fail
    refine HF.out.mono ?_
    rintro e w1 ⟨rfl, H⟩
    rw [HH.out]
    go_wp2_with fail
    go_ret2
    exact ⟨by rw [HG.out]; rfl, H⟩
set_option maxRecDepth 100000 in
theorem floor_nil (key : ByteArray) (w : World) : Calls Try.prog 43 #[.pointer none, .string key] w (Same (.tuple #[.string ⟨#[]⟩, vv (⟨#[]⟩ : ByteArray), .bool false]) w) := by
  go_enter Try.func43, Try.ntmps43
  go_wp2_with fail
  refine (find_nil key w).mono ?_
  rintro e w1 ⟨rfl, t1⟩
  have T1 := hide t1
  clear t1
  go_wp2_with fail
  go_ret3
  exact ⟨rfl, T1.out⟩
set_option maxRecDepth 100000 in
set_option maxHeartbeats 1000000 in
theorem floor_any (key : ByteArray) (a : At base ts j k T v lent xs) (h : Lie base w0 w ts) : Calls Try.prog 43 #[pt T, .string key] w (TL (.tuple #[.string (floor xs key).1, vv (floor xs key).2.1, .bool (floor xs key).2.2]) base w0 ts) := by
  have hf := find_any key a h
  have HF := hide hf
  have AA := hide a
  have hn := a.hn
  have hpl := pos_le xs key
  clear hf h
  by_cases hz : pos xs key + (if has xs key then 1 else 0) = 0
  · have HG : Hid (floor xs key = (⟨#[]⟩, (⟨#[]⟩ : ByteArray), false)) := hide (by unfold floor; rw [if_pos hz])
    have hh : has xs key = false := by
      cases hb : has xs key with
      | true => rw [hb] at hz; simp at hz
      | false => rfl
    have HH := hide hh
    have hp0 : Hid (pos xs key = 0) := hide (by omega)
    clear a hh hz
    go_enter Try.func43, Try.ntmps43
    go_wp2_with fail
    refine HF.out.mono ?_
    rintro e w1 ⟨rfl, H⟩
    rw [HH.out, hp0.out]
    go_wp2_with fail
    go_ret3
    exact ⟨by rw [HG.out]; rfl, H⟩
  · obtain ⟨q, hq⟩ : ∃ q, q + 1 = pos xs key + (if has xs key then 1 else 0) := ⟨_, Nat.sub_add_cancel (by omega)⟩
    have hql : q < xs.length := by
      by_cases hh : has xs key = true
      · obtain ⟨hp, _⟩ := (has_pos xs key a.hs).1 hh
        rw [hh] at hq
        simp at hq
        omega
      · rw [if_neg hh] at hq; omega
    have HG : Hid (floor xs key = ((xs[q]).1, (xs[q]).2, true)) := hide (by
      unfold floor
      rw [if_neg hz, show pos xs key + (if has xs key then 1 else 0) - 1 = q by omega, List.getElem?_eq_getElem hql]; rfl)
    clear a hz
    by_cases hh : has xs key = true
    · have HH := hide hh
      rw [hh] at hq
      have hp0 : Hid (pos xs key = q) := hide (by simp at hq; omega)
      clear hh hq hpl
      go_enter Try.func43, Try.ntmps43
      go_wp2_with fail
      refine HF.out.mono ?_
      rintro e w1 ⟨rfl, H⟩
      rw [HH.out, hp0.out]
      obtain ⟨A, c, rfl, hr⟩ := AA.out.rd H.out
      obtain ⟨c0, c1, f0, f1⟩ := mcells (H.out.get j AA.out.hj)
      obtain ⟨b, o, rfl, hb, hc⟩ := cell_at xs hr (by omega)
      obtain ⟨k0, k1⟩ := hc _ hql
      clear hc hr
      go_wp2_with fail
      go_quiet (fail)
      go_wp2_with fail
      go_ret3
      exact ⟨by rw [HG.out]; rfl, hide (H.out.drewN _)⟩
    · have HH := hide (Bool.eq_false_iff.2 hh)
      rw [if_neg hh] at hq
      have hp0 : Hid (pos xs key = q + 1) := hide (by omega)
      clear hh hq hpl
      go_enter Try.func43, Try.ntmps43
      go_wp2_with fail
      refine HF.out.mono ?_
      rintro e w1 ⟨rfl, H⟩
      rw [HH.out, hp0.out]
      obtain ⟨A, c, rfl, hr⟩ := AA.out.rd H.out
      obtain ⟨c0, c1, f0, f1⟩ := mcells (H.out.get j AA.out.hj)
      obtain ⟨b, o, rfl, hb, hc⟩ := cell_at xs hr (by omega)
      obtain ⟨k0, k1⟩ := hc _ hql
      clear hc hr
      go_wp2_with fail
      go_quiet (fail)
      go_wp2_with fail
      go_ret3
      exact ⟨by rw [HG.out]; rfl, hide (H.out.drewN _)⟩
end
end Go.Proofs.Ytcaeechlpadboaa.MS
