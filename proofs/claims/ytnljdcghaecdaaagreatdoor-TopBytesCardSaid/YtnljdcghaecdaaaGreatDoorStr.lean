/-
  A text put behind bytes: where the row lies.
-/
import Derived.Test.YtnljdcghaecdaaaGreatDoorByt
import Derived.Lib.AppendStr
namespace Go.Proofs.YtnljdcghaecdaaaGreatDoor
open Go.RowKit Go.Lib

section
variable {P : Program} (w : World)
/-- append of a text: as in the kit, and the new row lies where the old one did, or behind all that was there. -/
theorem run_appendStr (base : Nat) (t u ty e : TypeId) (i : TypeInfo) (ht : P.underlying t = some (.slice e)) (hu : P.underlying u = some .string) (hi : P.info? e = some i) (hz : i.zero = some (.int .u8 0))
    (hsize : i.size = 1) (hby : i.bytes = 1) (v : Value) (n : Nat) (xs : List Value) (hown : w.ownsRow base e 1 v n xs) (s : ByteArray) (hm : n + s.size ≤ 1000000) (hbase : base ≤ w.heap.size) :
    ∃ v' w', (Builtin.append_ #[t, u] ty #[v, .string s]).run P w = .ok v' w' ∧ w'.ownsRow base e 1 v' (n + s.size) (xs ++ strCells s) ∧ Turn (fun k => v.ownBlock = some k) w w' ∧ Newer w v v' := by
  obtain ⟨v', w', hr, ho, hg, hnil⟩ := run_append_own_string w base t u ty e i ht hu hi hz hsize hby v n xs hown s (by unfold maxLen; omega) (by omega) hbase
  refine ⟨v', w', hr, ho, (Turn.refl _ w).grown hg (fun k _ hk => hk), ?_⟩
  rcases hown.2 with ⟨rfl, rfl⟩ | ⟨g, cap, cur, rfl, hbg, hblk, hnc, hcm, hcs, htk⟩
  · by_cases h0 : s.size = 0
    · have hv : v' = .slice none 0 0 := hnil.2 ⟨rfl, h0⟩
      subst hv
      intro k hk
      cases hk
    · have h2 := hr.symm.trans (run_append_nil_string w t u ty e i (.int .u8 0) ht hu hi hz s (by omega) (by omega) (by rw [hby]; omega))
      injection h2 with h2 _
      subst h2
      intro k hk
      have : w.heap.size = k := Option.some.inj hk
      exact .inr (by omega)
  · by_cases hroom : n + s.size ≤ cap
    · have h2 := hr.symm.trans (run_append_room_string w t u ty e i ht hu hi hsize g n cap cur hblk s hroom (by have hq : cur.size = cap := (by simpa using hcs); omega))
      injection h2 with h2 _
      subst h2
      exact fun k hk => .inl hk
    · have hxl : xs.length = n := by simpa using hown.1
      have h2 := hr.symm.trans (run_append_grow_string w t u ty e i (.int .u8 0) ht hu hi hz ⟨g, 0, none⟩ n cap xs (by rw [hsize]; simpa using hxl) (hown.cells (g := g) rfl) s (by omega) (by omega) (by rw [hby]; exact growslice_fits (by omega) (by omega)))
      injection h2 with h2 _
      subst h2
      intro k hk
      have : w.heap.size = k := Option.some.inj hk
      exact .inr (by omega)
theorem wpList_appendStr {w : World} {ops : Array Oper} {rest : List Oper} {o : Oper} {a : Act} {Q : Exit → Act → World → Prop} (hgd : o.guard = none) (sl x : Operand) (t u : TypeId)
    (ho : o.op = .call { callee := .builtin .append, args := #[sl, x], argTypes := #[t, u] })
    (base : Nat) (e : TypeId) (i : TypeInfo) (ht : P.underlying t = some (.slice e)) (hu : P.underlying u = some .string) (hi : P.info? e = some i) (hz : i.zero = some (.int .u8 0))
    (hsize : i.size = 1) (hby : i.bytes = 1)
    (v : Value) (n : Nat) (xs : List Value) (hs : a.eval sl = v) (hown : w.ownsRow base e 1 v n xs) (s : ByteArray) (hx : a.eval x = .string s) (hm : n + s.size ≤ 1000000) (hbase : base ≤ w.heap.size)
    (h : ∀ v' w', w'.ownsRow base e 1 v' (n + s.size) (xs ++ strCells s) → Turn (fun k => v.ownBlock = some k) w w' → Newer w v v' → wpList P ops Q rest (a.put o.dst v') w') : wpList P ops Q (o :: rest) a w :=
  wpList_plain hgd fun K hK => by
    obtain ⟨v', w', hr, h2, h3, h4⟩ := run_appendStr (P := P) w base t u o.type e i ht hu hi hz hsize hby v n xs hown s hm hbase
    unfold Oper.wp execOp
    simp only [ho, resolve, invoke, builtin, Sem.run_bind, Sem.run_pure, Result.andThen_ok, List.map_toArray, List.map_cons, List.map_nil, hs, hx, hr]
    exact hK _ _ (h v' w' h2 h3 h4)
end
/-- A text's bytes. -/
def bytes (s : ByteArray) : List Int := s.data.toList.map fun b => (b.toNat : Int)
theorem bytes_len (s : ByteArray) : (bytes s).length = s.size := by
  rw [bytes, List.length_map, Array.length_toList]
  rfl
theorem bytes_cells (s : ByteArray) : strCells s = (bytes s).flatMap bc := by
  unfold strCells bytes
  induction s.data.toList with
  | nil => rfl
  | cons b l ih => simpa using ih
theorem Lie.moreS {base : Nat} {w0 w w2 : World} {v v' : Value} {xs : List Int} {s : ByteArray} {ts : List Thing} (h : Lie base w0 w (brow base v xs :: ts)) (ho : w2.ownsRow base 5 1 v' (xs.length + s.size) (xs.flatMap bc ++ strCells s)) (t : Turn (fun k => v.ownBlock = some k) w w2) (hn : Newer w v v') :
    Lie base w0 w2 (brow base v' (xs ++ bytes s) :: ts) :=
  h.step 0 (t' := brow base v' (xs ++ bytes s)) rfl t (by show w2.ownsRow base 5 1 v' (xs ++ bytes s).length ((xs ++ bytes s).flatMap bc); rw [List.length_append, List.flatMap_append, ← bytes_cells, bytes_len]; exact ho) (fun k hk => hn k hk)
section
attribute [local go_sem] Oper.semAt_some
variable {B : Nat} {w0 w : World} {ts : List Thing} {v : Value} {xs : List Int}
set_option maxRecDepth 100000 in
set_option maxHeartbeats 2000000 in
theorem text_any (s : ByteArray) (hs : s.size ≤ 10000) (hn : xs.length ≤ 800000) (h : Lie B w0 w (brow B v xs :: ts)) :
    Calls Tryz.prog 17 #[v, .string s] w fun e w' => ∃ v', e = .returned v' ∧ Hid (Lie B w0 w' (brow B v' (xs ++ varB s.size ++ bytes s) :: ts)) := by
  obtain ⟨i0, hi0, hz0, hz1, hz2⟩ := info_parts info5
  have HP := hide (putvar_any s.size (by omega) (by omega) h)
  have hv := varB_ten s.size (by omega)
  clear h
  go_enter Tryz.func17, Tryz.ntmps17
  go_wp2_with fail
  refine HP.out.mono ?_
  rintro e w1 ⟨v1, rfl, H⟩
  have hb := H.out.base_le
  have OWN : Hid (w1.ownsRow B 5 1 v1 (xs ++ varB s.size).length ((xs ++ varB s.size).flatMap bc)) := hide (H.out.get 0 rfl)
  have hl : (xs ++ varB s.size).length ≤ 800010 := by rw [List.length_append]; omega
  generalize hz : xs ++ varB s.size = zs at *
  have HZ := hide hz
  clear HP hv hz
  go_wp2_with (at_builtin; refine wpList_appendStr rfl (.tmp 9) (.tmp 10) 52 9 rfl B 5 i0 Tryz.underlying52 Tryz.underlying9 hi0 hz0 hz1 hz2 v1 zs.length _ (by simp [Act.eval]) OWN.out s (by simp [Act.eval]) (by omega) hb ?_; intro v' w2 ho t2 hnw; have L3 := hide (Lie.moreS H.out ho t2 hnw); clear ho t2 hnw)
  go_ret
  exact ⟨v', rfl, by rw [HZ.out]; exact L3⟩
end
end Go.Proofs.YtnljdcghaecdaaaGreatDoor
