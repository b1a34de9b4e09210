/-
  MemOthers: the function that it hands over.
-/
import Derived.Test.YtcaeechlpadboaaMOIS
import Derived.Test.YtcaeechlpadboaaFlaw
namespace Go.Proofs.Ytcaeechlpadboaa
open Go.RowKit Go.Maps Go.Shelf
attribute [local go_sem] Oper.semAt_some

theorem info9 : (Try.prog.info? 9).map (fun i => (i.zero, i.size, i.bytes)) = some (some (.string ⟨#[]⟩), 1, 16) := by kernel_rfl
/-- A list of texts in a cell. -/
abbrev txts (base ab : Nat) (va : Value) (sk : List ByteArray) : List Thing := [box ab (.cells #[va] 47 (0, 0)), row base 9 1 va sk.length (sk.flatMap sc)]
/-- What it makes. -/
def fOthers (x : MI.Ent) : ByteArray × Bool := (x.1 ++ ⟨#[33]⟩, ((x.2 : Int).tmod 2 == 0))
/-- One text more behind a list of texts. -/
theorem Lie.more {base : Nat} {w0 w w2 : World} {ab : Nat} {va v' : Value} {sk : List ByteArray} {others : List Thing} {s : ByteArray} (h : Lie base w0 w (txts base ab va sk ++ others)) (ho : w2.ownsRow base 9 1 v' (sk.length + 1) (sk.flatMap sc ++ [.string s])) (t : Turn (fun k => va.ownBlock = some k) w w2) (hn : Newer w va v') :
    Lie base w0 (w2.setCell ⟨ab, 0, none⟩ v') (txts base ab v' (sk ++ [s]) ++ others) := by
  have h1 := h.step 1 (t' := row base 9 1 v' (sk ++ [s]).length ((sk ++ [s]).flatMap sc)) rfl t (by
    show w2.ownsRow base 9 1 v' (sk ++ [s]).length ((sk ++ [s]).flatMap sc)
    rw [List.flatMap_append, List.length_append]
    exact ho) (fun k hk => hn k hk)
  have h2 := h1.setBox 0 rfl 0 v'
  exact h2

set_option maxRecDepth 100000 in
set_option maxHeartbeats 1000000 in
theorem fn26_any {base : Nat} {w0 w : World} {ab : Nat} {va : Value} {sk : List ByteArray} {others : List Thing} (x : MI.Ent) (hx0 : 0 ≤ (x.2 : Int)) (hx1 : (x.2 : Int) ≤ 1000) (hk : x.1.size ≤ 30000) (hn : sk.length ≤ 1000) (h : Lie base w0 w (txts base ab va sk ++ others)) :
    Calls Try.prog 26 #[.string x.1, MI.vv x.2, MI.pt ab] w fun e w' => e = .returned (.tuple #[MS.vv (fOthers x).1, .bool (fOthers x).2]) ∧ ∃ va', Hid (Lie base w0 w' (txts base ab va' (sk ++ [x.1]) ++ others)) := by
  obtain ⟨i0, hi0, hz0, hz1, hz2⟩ := info_parts info9
  obtain ⟨key, i⟩ : ByteArray × Int := x
  obtain ⟨c0, f0⟩ := cell1 (h.get 0 rfl)
  have hown := h.get 1 rfl
  obtain ⟨A, c, rfl⟩ := (Rd.of_own hown).shape
  have OWN : Hid (w.ownsRow base 9 1 (.slice A sk.length c) sk.length (sk.flatMap sc)) := hide hown
  have H := hide h
  have hb := h.base_le
  simp only at hx0 hx1 hk
  have hsz : ¬ 9223372036854775807 < key.size + (⟨#[33]⟩ : ByteArray).size := by
    have : (⟨#[33]⟩ : ByteArray).size = 1 := rfl
    omega
  have htm : i.tmod 2 = i % 2 := Int.tmod_eq_emod_of_nonneg hx0
  have hfo : Hid (fOthers (key, i) = (key ++ ⟨#[33]⟩, (i % 2 == 0))) := hide (by unfold fOthers; simp only [htm])
  have hw : IntKind.i64.wrap (i % 2) = i % 2 := IntWalk.i64_in _ (by omega)
  clear h hown
  go_enter Try.func26, Try.ntmps26
  go_wp2_with (at_builtin; refine wpList_append1 rfl (.tmp 7) (.tmp 9) 47 rfl base 9 i0 _ 1 16 Try.underlying47 hi0 hz0 hz1 hz2 rfl (by decide) (.slice A sk.length c) sk.length _ (by simp [Act.eval]) OWN.out [.string key] (by simp [Act.eval]) rfl (by intro u hu; simp at hu; subst hu; rfl) (by omega) (by omega) hb ?_; intro v' w2 ho t2 hnw; obtain ⟨A', c', rfl⟩ := (Rd.of_own ho).shape; have L2 := hide (H.out.more ho t2 hnw); have hA : w2.heap[ab]? = some (.cells #[.slice A sk.length c] 47 (0, 0)) := t2.obj (H.out.get 0 rfl) (fun hk => H.out.apart 0 1 _ _ (by decide) rfl rfl ab rfl hk); obtain ⟨d0, g0⟩ := cell1 hA; clear ho t2 hnw hA)
  go_ret2
  exact ⟨by rw [hfo.out]; rfl, _, L2⟩

theorem put_mem {α : Type} (xs : List (ByteArray × α)) (k : ByteArray) (v : α) (y : ByteArray × α) (h : y ∈ put xs k v) : y = (k, v) ∨ y ∈ xs := by
  unfold put at h
  rcases List.mem_append.1 h with h | h
  · exact .inr (List.mem_of_mem_take h)
  · rcases List.mem_cons.1 h with h | h
    · exact .inl h
    · exact .inr (List.mem_of_mem_drop h)
theorem del_mem {α : Type} (xs : List (ByteArray × α)) (k : ByteArray) (y : ByteArray × α) (h : y ∈ del xs k) : y ∈ xs := by
  unfold del at h
  split at h
  · rcases List.mem_append.1 h with h | h
    · exact List.mem_of_mem_take h
    · exact List.mem_of_mem_drop h
  · exact h
/-- Of the table: its keys are texts of the list, its values places. -/
theorem tab_mem (l : List ByteArray) : ∀ k, k ≤ l.length → ∀ y ∈ tabOf l k, y.1 ∈ l ∧ ∃ i : Nat, y.2 = (i : Int) ∧ i < k
  | 0, _, y, h => by cases h
  | k + 1, hk, y, h => by
    unfold tabOf at h
    split at h
    · obtain ⟨h1, i, h2, h3⟩ := tab_mem l k (by omega) y (del_mem _ _ _ h)
      exact ⟨h1, i, h2, by omega⟩
    · rcases put_mem _ _ _ _ h with rfl | h
      · rw [List.getElem?_eq_getElem (by omega)]
        exact ⟨List.getElem_mem _, k, rfl, by omega⟩
      · obtain ⟨h1, i, h2, h3⟩ := tab_mem l k (by omega) y h
        exact ⟨h1, i, h2, by omega⟩
end Go.Proofs.Ytcaeechlpadboaa
