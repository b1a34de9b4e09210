/-
  RetryAlls at every argument.
-/
import Derived.Test.YtdgoofchadfepaaAllsA1Y
import Derived.Test.YtdgoofchadfepaaAllsA2Y
import Derived.Test.YtdgoofchadfepaaAllsBY
import Derived.Test.YtdgoofchadfepaaAllsA1N
import Derived.Test.YtdgoofchadfepaaAllsA2N
import Derived.Test.YtdgoofchadfepaaAllsBN
namespace Go.Proofs.Ytdgoofchadfepaa
open Go.RowKit Go.Shelf Go.WideShapes

theorem upto_pre (p : Po) (n : Nat) (pre : List (Int × Int)) (h : pre <+: upto p n) : pre = upto p pre.length := by
  have hl : pre.length ≤ n := by have := h.length_le; simpa [upto] using this
  have h2 := upto_prefix p _ _ hl
  have h3 : (upto p pre.length).length = pre.length := by simp [upto]
  exact (List.prefix_of_prefix_length_le h h2 (by omega)).eq_of_length h3.symm
theorem upto_last (p : Po) (n : Nat) (pre : List (Int × Int)) (x : Int × Int) (h : pre ++ [x] <+: upto p n) : pre.length < n ∧ x = ((pre.length : Int) + 1, bas p pre.length) := by
  have hl : (pre ++ [x]).length ≤ n := by have := h.length_le; simpa [upto] using this
  have h1 := upto_pre p n _ h
  rw [List.length_append, show [x].length = 1 from rfl, upto_succ] at h1
  have h2 := List.append_inj_right' h1 rfl
  simp at hl h2
  exact ⟨by omega, h2⟩
theorem alls_all (v : Value) (a : Int) (hv : ∃ P : Po, v = P.v) (w : World) : Calls Try.prog 5 #[v, .int .i64 a] w fun e w' => e = .returned (.bool true) ∧ Below w.heap.size w w' := by
  obtain ⟨p, rfl⟩ := hv
  by_cases hr : Right p
  · obtain ⟨n, hn⟩ : ∃ n : Nat, p.most = n := ⟨p.most.toNat, by have := hr.m1; omega⟩
    have hn30 : n ≤ 30 := by have := hr.m2; omega
    have hit : ∀ pb base, IterL Try.prog 18 #[.pointer (some ⟨pb, 0, none⟩)] att (upto p n) [box pb (pobj p)] base := fun pb base => iter_yes p hr n hn pb base
    have hX : ∀ pre x, pre ++ [x] <+: upto p n → (pre.length < 30 ∧ x.1 = (pre.length : Int) + 1 ∧ baseOf p ((pre.length : Int) + 1) = (x.2, 0)) ∧ 0 ≤ sumOf pre ∧ sumOf pre ≤ 32985348833280 ∧ 0 ≤ sumOf (pre ++ [x]) ∧ sumOf (pre ++ [x]) ≤ 32985348833280 := by
      intro pre x h
      obtain ⟨h1, h2⟩ := upto_last p n pre x h
      have b1 := sumOf_bd p hr n hn30 pre ((List.prefix_append pre [x]).trans h)
      have b2 := sumOf_bd p hr n hn30 _ h
      have hb := baseOf_go p ((pre.length : Int) + 1) hr (by omega) (by omega)
      rw [show ((pre.length : Int) + 1 - 1).toNat = pre.length by omega] at hb
      exact ⟨⟨by omega, by rw [h2], by rw [hb, h2]⟩, b1.1, b1.2, b2.1, b2.2⟩
    have hlen : ((upto p n).length : Int) = p.most := by simp [upto, hn]
    have htot : totalOf p = sumOf (upto p n) := by unfold totalOf; rw [if_pos hr, hn]; rfl
    by_cases h1 : a < 1
    · exact alls_A1Y p a _ hit hX hr hlen h1 htot w
    · by_cases h2 : p.most < a
      · exact alls_A2Y p a _ hit hX hr hlen (by omega) h2 htot w
      · exact alls_BY p a _ hit hX hr hlen (by omega) (by omega) htot w
  · have hit : ∀ pb base, IterL Try.prog 18 #[.pointer (some ⟨pb, 0, none⟩)] att [] [box pb (pobj p)] base := fun pb base => iter_no p hr pb base
    have hX : ∀ (pre : List (Int × Int)) (x : Int × Int), pre ++ [x] <+: [] → (pre.length < 30 ∧ x.1 = (pre.length : Int) + 1 ∧ baseOf p ((pre.length : Int) + 1) = (x.2, 0)) ∧ 0 ≤ sumOf pre ∧ sumOf pre ≤ 32985348833280 ∧ 0 ≤ sumOf (pre ++ [x]) ∧ sumOf (pre ++ [x]) ≤ 32985348833280 := by
      intro pre x h
      have := h.length_le
      simp at this
    have htot : totalOf p = sumOf [] := by unfold totalOf; rw [if_neg hr]; rfl
    by_cases h1 : a < 1
    · exact alls_A1N p a _ hit hX hr rfl h1 htot w
    · by_cases h2 : p.most < a
      · exact alls_A2N p a _ hit hX hr rfl (by omega) h2 htot w
      · exact alls_BN p a _ hit hX hr rfl (by omega) (by omega) htot w
end Go.Proofs.Ytdgoofchadfepaa
