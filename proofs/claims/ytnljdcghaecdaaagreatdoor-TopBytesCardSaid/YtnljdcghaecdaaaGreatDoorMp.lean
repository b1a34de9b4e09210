/-
  Maps from texts to whatever; how often a text came.
-/
import Derived.Test.YtnljdcghaecdaaaGreatDoorChk
import Derived.Maps.OwnOps
import Derived.StringKeys
namespace Go.Proofs.YtnljdcghaecdaaaGreatDoor
open Go.RowKit Go.Lib Go.Maps Go.WideMaps
attribute [local go_sem] Oper.semAt_some

def rawE (v : Value) : Option (DataW Value × List MemPlace) := some (.held v, [])
theorem keyedS : Keyed Tryz.prog 9 := string_keyed Tryz.underlying9
/-- A map from texts: what it gives. -/
def mpt (b n : Nat) (z : Value) (f : ByteArray → Value) : Thing where
  is w := ∃ D, w.ownsMap Tryz.prog 9 rawE b n D ∧ ∀ s kl, keyOf Tryz.prog 9 (.string s) = some kl → D.atKey kl (.held z) = .held (f s)
  foot _ k := k = b
  lt := fun ⟨_, h, _⟩ e => e ▸ h.lt
  stay := fun ⟨D, ⟨es, cl, hb, F, hs, hD⟩, h2⟩ hk => ⟨⟨D, ⟨es, cl, (hk b rfl).trans hb, F, hs, hD⟩, h2⟩, fun _ h => h⟩
section
variable {B : Nat} {w0 w : World} {ts : List Thing} {b n : Nat} {z : Value} {f : ByteArray → Value}
theorem mpt_made (w : World) (z : Value) : (mpt w.heap.size 0 z (fun _ => z)).is (w.alloc (.map #[] 0)) :=
  ⟨.map [], World.ownsMap_made w Tryz.prog 9 rawE, fun _ _ _ => rfl⟩
theorem mpt_look (h : (mpt b n z f).is w) {t e : TypeId} (ht : Tryz.prog.underlying t = some (.map 9 e)) (hz : (zeroValue e).run Tryz.prog w = .ok z w) (s : ByteArray) (hs : s.size ≤ maxLen) :
    (Instr.lookup t (.map (some b)) (.string s) false).run Tryz.prog w = .ok (f s) w := by
  obtain ⟨D, h1, h2⟩ := h
  have hk := keyOf_string_mk (P := Tryz.prog) Tryz.underlying9 hs
  obtain ⟨v, ps, hr, hv⟩ := h1.lookup keyedS ht hz (zd := .held z) (zp := []) rfl hk
  rw [h2 s _ hk] at hv
  have hv2 : v = f s := by
    have e := congrArg (fun o : Option (DataW Value × List MemPlace) => o.map (fun p => p.1)) hv
    simp only [rawE, Option.map_some] at e
    exact DataW.held.inj (Option.some.inj e)
  rw [hr, hv2]
def upd (f : ByteArray → Value) (s : ByteArray) (v : Value) : ByteArray → Value := fun t => if t = s then v else f t
theorem mpt_store (h : (mpt b n z f).is w) {t e : TypeId} (ht : Tryz.prog.underlying t = some (.map 9 e)) (s : ByteArray) (v : Value) (hs : s.size ≤ maxLen) (hn : n < maxLen) :
    ∃ w', (Instr.mapUpdate t (.map (some b)) (.string s) v).run Tryz.prog w = .ok () w' ∧ (mpt b (n + 1) z (upd f s v)).is w' ∧ Turn (· = b) w w' := by
  obtain ⟨D, h1, h2⟩ := h
  have hk := keyOf_string_mk (P := Tryz.prog) Tryz.underlying9 hs
  obtain ⟨w', hr, h3, h4⟩ := h1.store keyedS ht hn (val := v) (d := .held v) (ps := []) hk rfl
  refine ⟨w', hr, ⟨_, h3, fun t kl ht => ?_⟩, (Turn.refl (· = b) w).grown h4.grown (fun k _ hk => (Option.some.inj hk).symm)⟩
  by_cases e : t = s
  · subst e
    have ht2 := Option.some.inj (hk.symm.trans ht)
    subst ht2
    rw [atKey_put_same h1.isMap (keyedS.key hk)]
    simp [upd]
  · have hne : kl ≠ .string s.data.toList := fun e2 => by
      rw [e2] at ht
      have h5 := keyedS.inj hk ht
      exact e (Value.string.inj h5).symm
    rw [atKey_put_other hne, h2 t kl ht]
    simp [upd, e]
end
/-- How often a text came. -/
def cnt : List ByteArray → ByteArray → Nat
  | [], _ => 0
  | x :: l, s => (if s = x then 1 else 0) + cnt l s
theorem cnt_le : ∀ (l : List ByteArray) (s : ByteArray), cnt l s ≤ l.length
  | [], _ => Nat.le_refl _
  | x :: l, s => by
    have := cnt_le l s
    unfold cnt
    simp only [List.length_cons]
    split <;> omega
theorem cnt_none : ∀ (l : List ByteArray) (s : ByteArray), decide (cnt l s = 0) = !among l s
  | [], _ => rfl
  | x :: l, s => by
    have := cnt_none l s
    by_cases h : s = x
    · subst h; simp [cnt, among]
    · have h2 : ¬ x = s := fun e => h e.symm
      have e1 : cnt (x :: l) s = cnt l s := by simp [cnt, h]
      have e2 : among (x :: l) s = among l s := by simp [among, h2]
      rw [e1, e2, this]
abbrev cntv (l : List ByteArray) : ByteArray → Value := fun s => .int .i64 (cnt l s)
abbrev once (b : Nat) (l : List ByteArray) : Thing := mpt b l.length (.int .i64 0) (cntv l)
theorem zero3 (w : World) : (zeroValue 3).run Tryz.prog w = .ok (.int .i64 0) w := by kernel_rfl
section
variable {B : Nat} {w0 w : World} {ts : List Thing} {b : Nat} {l : List ByteArray}
set_option maxRecDepth 100000 in
set_option maxHeartbeats 1000000 in
theorem new_any (s : ByteArray) (hs : s.size ≤ 100000) (hl : l.length ≤ 100000) (n : Nat) (hn : ts[n]? = some (once b l)) (h : Lie B w0 w ts) :
    Calls Tryz.prog 99 #[.map (some b), .string s] w fun e w' => e = .returned (.bool (!among l s)) ∧ Hid (Lie B w0 w' (ts.set n (once b (s :: l)))) := by
  have k1 := mpt_look (h.get n hn) Tryz.underlying157 (zero3 w) s (by unfold maxLen; omega)
  obtain ⟨w1, k2, h1, t1⟩ := mpt_store (h.get n hn) Tryz.underlying157 s (.int .i64 ((cnt l s : Int) + 1)) (by unfold maxLen; omega) (by unfold maxLen; omega)
  have hf : upd (cntv l) s (.int .i64 ((cnt l s : Int) + 1)) = cntv (s :: l) := by
    funext t
    unfold upd cntv
    by_cases e : t = s
    · subst e
      simp [cnt]
      omega
    · simp [cnt, e]
  rw [hf] at h1
  have h1' : (once b (s :: l)).is w1 := h1
  have H1 := hide (h.step n hn t1 h1' (fun k hk => .inl hk))
  have k3 := mpt_look h1 Tryz.underlying157 (zero3 w1) s (by unfold maxLen; omega)
  have hc : cntv (s :: l) s = .int .i64 ((cnt l s : Int) + 1) := by simp [cntv, cnt]; omega
  rw [hc] at k3
  have hb : (((cnt l s : Int) + 1) == 1) = !among l s := by
    rw [← cnt_none, Bool.eq_iff_iff]
    simp only [beq_iff_eq, decide_eq_true_eq]
    omega
  have hle := cnt_le l s
  have HB := hide hb
  have k4 : cntv l s = .int .i64 (cnt l s : Int) := rfl
  rw [k4] at k1
  generalize cnt l s = c at *
  have hcl : c ≤ 100000 := by omega
  clear h hn hf h1 h1' t1 hc hb k4 hle
  go_enter Tryz.func99, Tryz.ntmps99
  go_wp2_with fail
  go_ret
  exact ⟨by rw [← HB.out]; rfl, H1⟩
end
end Go.Proofs.YtnljdcghaecdaaaGreatDoor
