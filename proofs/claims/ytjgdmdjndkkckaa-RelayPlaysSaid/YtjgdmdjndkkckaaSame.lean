/-
  same: of two slices that read as the same texts it says true.
-/
import Derived.Test.YtjgdmdjndkkckaaBox3
namespace Go.Proofs.Ytjgdmdjndkkckaa
open Go.Conc Go.RowKit

theorem strs_at {l : List ByteArray} {k : Nat} (h : k < l.length) : (strs l)[k]? = some (.string l[k]) := by simp [strs, h]

def Drawn (w : World) (w' : World) : Prop := ∃ n, w.drewN n = w'

theorem bytes_eq (s : ByteArray) : (s.toList != s.toList) = false := by simp

set_option maxHeartbeats 400000 in
theorem same_eq (v v' : Value) (l : List ByteArray) (w : World) (h : Rd w 1 v l.length (strs l)) (h' : Rd w 1 v' l.length (strs l)) (hm : l.length ≤ 1000000) :
    Calls Try.prog 15 #[v, v'] w fun e w' => e = .returned (.bool true) ∧ Drawn w w' := by
  obtain ⟨_, A, c, rfl, _, hA⟩ := h
  obtain ⟨_, A', c', rfl, _, hA'⟩ := h'
  have HA := hide hA
  have HA' := hide hA'
  clear hA hA'
  go_enter Try.func15, Try.ntmps15
  go_wp2
  go_loopw [5] (fun i wr => ∃ k : Nat, k ≤ l.length ∧ i = .int .i64 k ∧ Drawn w wr) (fun i _ => l.length - (intOf i).toNat)
  case atStart => exact ⟨0, by omega, rfl, 0, rfl⟩
  case round =>
    obtain ⟨k, hk, rfl, nd, rfl⟩ := hrel
    by_cases hlt : k < l.length
    · obtain ⟨b, o, rfl, _, hc⟩ := HA.out (by omega)
      obtain ⟨b', o', rfl, _, hc'⟩ := HA'.out (by omega)
      have c1 := hc k _ (strs_at hlt)
      have c2 := hc' k _ (strs_at hlt)
      clear hc hc'
      have hi : (k : Int) < (l.length : Int) := by omega
      have he := bytes_eq l[k]
      go_wp2
      go_quiet (fail)
      go_wp2
      go_roundw
      case rel => exact ⟨k + 1, by omega, by go_num, _, rfl⟩
      case measure => simp [intOf]; omega
    · go_wp2
      go_ret
      exact ⟨rfl, nd, rfl⟩
end Go.Proofs.Ytjgdmdjndkkckaa
