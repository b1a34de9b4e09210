/-
  A writer's text; a type's text.
-/
import Derived.Test.YtnljdcghaecdaaaGreatDoorSrt
namespace Go.Proofs.YtnljdcghaecdaaaGreatDoor
open Go.RowKit Go.Lib Go.Maps
attribute [local go_sem] Oper.semAt_some

def joinL (l : List ByteArray) : List UInt8 := Lib.join (l.map (·.data.toList)) [32]
def joinS (l : List ByteArray) : ByteArray := ⟨(joinL l).toArray⟩
theorem lens_le (c : Nat) : ∀ l : List ByteArray, (∀ x ∈ l, x.size ≤ c) → Lib.lens (l.map (·.data.toList)) ≤ l.length * c
  | [], _ => by simp [Lib.lens]
  | x :: l, h => by
    have h1 := lens_le c l (fun y hy => h y (List.mem_cons_of_mem _ hy))
    have h2 := h x (List.mem_cons_self ..)
    have h3 : x.data.toList.length = x.size := by rw [Array.length_toList]; rfl
    have h4 : Lib.lens ((x :: l).map (·.data.toList)) = x.data.toList.length + Lib.lens (l.map (·.data.toList)) := by simp [Lib.lens]
    rw [h4, h3, List.length_cons, Nat.add_mul]
    omega
theorem joinL_le (c : Nat) (l : List ByteArray) (h : ∀ x ∈ l, x.size ≤ c) : (joinL l).length ≤ l.length * (c + 1) := by
  cases l with
  | nil => simp [joinL, Lib.join_nil]
  | cons x l =>
    have h1 := lens_le c (x :: l) h
    unfold joinL
    rw [List.map_cons] at h1 ⊢
    rw [Lib.join_length]
    simp only [List.length_map, List.length_cons, List.length_nil] at *
    rw [Nat.mul_add]
    omega
section
variable {B : Nat} {w0 w : World} {ts : List Thing} {b : Nat} {l : List ByteArray}
set_option maxRecDepth 100000 in
theorem text_ret (n : Nat) (hn : ts[n]? = some (wrt B b l)) (h : Hid (Lie B w0 w ts)) (hl : l.length ≤ 100000) (hj : (joinL l).length ≤ 100000000) :
    Calls Tryz.prog 50 #[.pointer (some ⟨b, 0, none⟩)] w fun e w' => e = .returned (.string (joinS l)) ∧ Turn (fun _ => False) w w' := by
  obtain ⟨v, hb, ho, hv⟩ := h.out.get n hn
  have hr := Rd.of_own ho
  obtain ⟨A, c, rfl⟩ := hr.shape
  have hc : l.length ≤ c := by
    have h1 := Capd.own ho
    exact h1.le
  have c0 : w.cell? ⟨b, 0, none⟩ = some (.slice A l.length c) := by simp [World.cell?, hb]
  by_cases h0 : 0 < l.length
  · obtain ⟨g, o, rfl, hg, hcl⟩ := txt_at l hr h0
    have C1 := hide (Tryz.strings_Join g o c l ⟨#[32]⟩ w (fun j x hx => by
      obtain ⟨hj2, rfl⟩ := List.getElem?_eq_some_iff.1 hx
      exact hcl j hj2) hg (by omega) hc (by
      have : (joinL l).length = (Lib.join (l.map (·.data.toList)) (⟨#[32]⟩ : ByteArray).data.toList).length := rfl
      omega))
    have HE : Hid ((⟨(Lib.join (l.map (·.data.toList)) (⟨#[32]⟩ : ByteArray).data.toList).toArray⟩ : ByteArray) = joinS l) := hide rfl
    rw [HE.out] at C1
    generalize joinS l = z at *
    obtain ⟨m, hm⟩ : ∃ m, m = l.length := ⟨_, rfl⟩
    rw [← hm] at c0 C1
    clear hn hb ho hv hr hcl hm hc hl h0 hj HE
    go_enter Tryz.func50, Tryz.ntmps50
    go_wp2_with fail
    refine C1.out.mono ?_
    rintro e w1 ⟨rfl, B1⟩
    go_wp2_with fail
    go_ret
    exact ⟨rfl, Turn.of_below B1⟩
  · obtain rfl : l = [] := List.eq_nil_of_length_eq_zero (by omega)
    have C1 := hide (Tryz.strings_Join_none A c ⟨#[32]⟩ w)
    clear hn hb ho hv hr hc hl h0 hj
    go_enter Tryz.func50, Tryz.ntmps50
    go_wp2_with fail
    refine C1.out.mono ?_
    rintro e w1 ⟨rfl, rfl⟩
    go_wp2_with fail
    go_ret
    exact ⟨rfl, Turn.refl _ _⟩
end
/-- Types whose form is right. -/
def midK (x : SortD) : Bool := decide (x.kind = 5) || decide (x.kind = 6)
def wfT : List SortD → Bool
  | [] => false
  | x :: r => if midK x then wfT r else r.isEmpty
theorem wf_of : ∀ (ts : List SortD), 0 < ts.length → (∀ t (ht : t < ts.length), t + 1 < ts.length → midK ts[t] = true) → (∀ t (ht : t < ts.length), t + 1 = ts.length → midK ts[t] = false) → wfT ts = true
  | [], h, _, _ => by cases h
  | [x], _, _, h2 => by
    have := h2 0 (by simp) rfl
    simp at this
    simp [wfT, this]
  | x :: y :: r, _, h1, h2 => by
    have hx := h1 0 (by simp) (by simp)
    simp at hx
    have ih := wf_of (y :: r) (by simp) (fun t ht h => by have := h1 (t + 1) (by simp at ht ⊢; omega) (by simp at h ⊢; omega); simpa using this) (fun t ht h => by have := h2 (t + 1) (by simp at ht ⊢; omega) (by simp at h ⊢; omega); simpa using this)
    unfold wfT
    rw [if_pos hx]
    exact ih
theorem wf_right {rs : List RecD} {ts : List SortD} (h : rightB rs ts = true) : wfT ts = true := by
  have h0 : 0 < ts.length := by
    cases ts with
    | nil => cases h
    | cons _ _ => simp
  have h12 : ts.length ≤ 12 := by
    rcases Nat.lt_or_ge 12 ts.length with h1 | h1
    · rw [right_long (by omega)] at h; cases h
    · exact h1
  have hmid : ∀ t (ht : t < ts.length), t < ts.length - 1 → midB ts[t] = true := fun t ht h1 => by
    cases hm : midB ts[t] with
    | true => rfl
    | false => rw [right_mid ht h1 hm] at h; cases h
  refine wf_of ts h0 (fun t ht h1 => ?_) (fun t ht h1 => ?_)
  · have := hmid t ht (by omega)
    unfold midB at this
    simp only [Bool.and_eq_true] at this
    exact this.1
  · rw [right_last h0 h12 hmid] at h
    have e : t = ts.length - 1 := by omega
    subst e
    unfold lastB at h
    unfold midK
    split at h
    · rename_i hk
      rcases hk with hk | hk | hk | hk <;> simp [hk]
    · split at h
      · rename_i hk; simp [hk]
      · cases h
end Go.Proofs.YtnljdcghaecdaaaGreatDoor
