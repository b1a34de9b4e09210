/-
  Letters that are unlike have unlike bytes. No program in sight.
-/
import Derived.Test.YtnljdcghaecdaaaGreatDoorPack
namespace Go.Proofs.YtnljdcghaecdaaaGreatDoor
open Go.RowKit Go.Lib

theorem low_all : (List.range 256).all (fun y => bits .or .u8 (y : Int) 128 == ((y % 128 + 128 : Nat) : Int)) = true := by kernel_rfl
theorem low_is (x : Nat) : lowB x = ((x % 128 + 128 : Nat) : Int) := by
  have h := List.all_eq_true.1 low_all (x % 256) (List.mem_range.2 (Nat.mod_lt _ (by decide)))
  have h2 := eq_of_beq h
  unfold lowB
  have e : ((x : Int) % 256) = ((x % 256 : Nat) : Int) := by omega
  rw [e, h2]
  omega
/-- Each a byte. -/
def Bys (xs : List Int) : Prop := ∀ z ∈ xs, 0 ≤ z ∧ z < 256
theorem Bys.app {xs ys : List Int} (h : Bys xs) (h2 : Bys ys) : Bys (xs ++ ys) := fun z hz => by
  rcases List.mem_append.1 hz with h3 | h3
  · exact h z h3
  · exact h2 z h3
theorem varB_bys (x : Nat) : Bys (varB x) := by
  induction x using Nat.strongRecOn with
  | ind x ih =>
    intro z hz
    by_cases h : x < 128
    · rw [varB_small h] at hz
      simp at hz
      omega
    · rw [varB_great h] at hz
      rcases List.mem_cons.1 hz with rfl | h2
      · rw [low_is]; omega
      · exact ih (x / 128) (by omega) z h2
theorem bytes_bys (s : ByteArray) : Bys (bytes s) := fun z hz => by
  obtain ⟨b, _, rfl⟩ := List.mem_map.1 hz
  have := b.toNat_lt
  omega
theorem nth8_bys (x k : Nat) : 0 ≤ nth8 x k ∧ nth8 x k < 256 := by
  unfold nth8
  omega
theorem bigB_bys (x n : Nat) : ∀ j, Bys (bigB x n j)
  | 0 => fun z hz => by cases hz
  | j + 1 => (bigB_bys x n j).app (fun z hz => by simp at hz; subst hz; exact nth8_bys _ _)
theorem litB_bys (x : Nat) : ∀ j, Bys (litB x j)
  | 0 => fun z hz => by cases hz
  | j + 1 => (litB_bys x j).app (fun z hz => by simp at hz; subst hz; exact nth8_bys _ _)
theorem txtB_bys (s : ByteArray) : Bys (txtB s) := (varB_bys _).app (bytes_bys s)
theorem strOfNums_inj : ∀ (xs ys : List Int), Bys xs → Bys ys → strOfNums xs = strOfNums ys → xs = ys := by
  intro xs ys hx hy h
  have h1 : xs.map (fun n => UInt8.ofNat n.toNat) = ys.map (fun n => UInt8.ofNat n.toNat) := by
    have := congrArg (fun s : ByteArray => s.data.toList) h
    simpa [strOfNums_data] using this
  clear h
  induction xs generalizing ys with
  | nil => cases ys with
    | nil => rfl
    | cons y ys => cases h1
  | cons x xs ih =>
    cases ys with
    | nil => cases h1
    | cons y ys =>
      simp only [List.map_cons, List.cons.injEq] at h1
      obtain ⟨h2, h3⟩ := h1
      have hx0 := hx x (by simp)
      have hy0 := hy y (by simp)
      have h4 : x = y := by
        have := congrArg UInt8.toNat h2
        simp only [UInt8.toNat_ofNat'] at this
        omega
      rw [h4, ih ys (fun z hz => hx z (List.mem_cons_of_mem _ hz)) (fun z hz => hy z (List.mem_cons_of_mem _ hz)) h3]
theorem varB_free (x : Nat) : ∀ (y : Nat) (r q : List Int), varB x ++ r = varB y ++ q → x = y ∧ r = q := by
  induction x using Nat.strongRecOn with
  | ind x ih =>
    intro y r q h
    by_cases hx : x < 128 <;> by_cases hy : y < 128
    · rw [varB_small hx, varB_small hy] at h
      simp at h
      exact ⟨by omega, h.2⟩
    · rw [varB_small hx, varB_great hy] at h
      simp [low_is] at h
      omega
    · rw [varB_great hx, varB_small hy] at h
      simp [low_is] at h
      omega
    · rw [varB_great hx, varB_great hy] at h
      simp only [List.cons_append, List.cons.injEq, low_is] at h
      obtain ⟨h1, h2⟩ := h
      obtain ⟨h3, h4⟩ := ih (x / 128) (by omega) (y / 128) r q h2
      exact ⟨by omega, h4⟩
theorem bytes_inj {s t : ByteArray} (h : bytes s = bytes t) : s = t := by
  unfold bytes at h
  have h1 : s.data.toList = t.data.toList := by
    have hinj : ∀ (a b : List UInt8), a.map (fun b => (b.toNat : Int)) = b.map (fun b => (b.toNat : Int)) → a = b := by
      intro a
      induction a with
      | nil => intro b hb; cases b with
        | nil => rfl
        | cons y b => cases hb
      | cons x a ih =>
        intro b hb
        cases b with
        | nil => cases hb
        | cons y b =>
          simp only [List.map_cons, List.cons.injEq] at hb
          have : x = y := UInt8.toNat_inj.1 (by omega)
          rw [this, ih b hb.2]
    exact hinj _ _ h
  cases s; cases t
  simp at h1
  rw [h1]
theorem txtB_free (s t : ByteArray) (r q : List Int) (h : txtB s ++ r = txtB t ++ q) : s = t ∧ r = q := by
  unfold txtB at h
  rw [List.append_assoc, List.append_assoc] at h
  obtain ⟨h1, h2⟩ := varB_free _ _ _ _ h
  obtain ⟨h3, h4⟩ := List.append_inj h2 (by rw [bytes_len, bytes_len]; exact h1)
  exact ⟨bytes_inj h3, h4⟩
theorem bigB_inj (x y : Nat) (hx : x < 18446744073709551616) (hy : y < 18446744073709551616) (h : bigB x 8 8 = bigB y 8 8) : x = y := by
  simp [bigB, nth8] at h
  omega
theorem head_free (l m : Letr) (hl : Right l) (hm : Right m) (hp : l.print < 18446744073709551616) (hq : m.print < 18446744073709551616) (h : headB l = headB m) : l = m := by
  unfold headB at h
  simp only [List.append_assoc, List.cons_append, List.nil_append, List.cons.injEq] at h
  obtain ⟨h1, h2, h3, h⟩ := h
  obtain ⟨h4, h⟩ := varB_free _ _ _ _ h
  obtain ⟨h5, h⟩ := txtB_free _ _ _ _ h
  obtain ⟨h6, h⟩ := List.append_inj h (by rw [bigB_len, bigB_len])
  obtain ⟨h7, h⟩ := txtB_free _ _ _ _ h
  obtain ⟨h8, h⟩ := txtB_free _ _ _ _ h
  obtain ⟨h9, h⟩ := varB_free _ _ _ _ h
  obtain ⟨h10, _⟩ := txtB_free l.body m.body [] [] (by simpa using h)
  have a1 := hl.frm; have a2 := hm.frm; have a3 := hl.to; have a4 := hm.to; have a5 := hl.code; have a6 := hm.code
  obtain ⟨k, f, t, s, ky, p, sv, mt, c, b⟩ := l
  obtain ⟨k', f', t', s', ky', p', sv', mt', c', b'⟩ := m
  simp only at *
  have e6 := bigB_inj p p' hp hq h6
  have e2 : f = f' := by omega
  have e3 : t = t' := by omega
  have e9 : c = c' := by omega
  subst h1 e2 e3 h4 h5 e6 h7 h8 e9 h10
  rfl
theorem headB_bys (l : Letr) (hl : Right l) : Bys (headB l) := by
  have h3 : Bys [l.kind, l.frm % 256, l.to % 256] := fun z hz => by
    have a1 := hl.kind; have a2 := hl.frm; have a3 := hl.to
    simp at hz
    omega
  exact (((((((h3.app (varB_bys _)).app (txtB_bys _)).app (bigB_bys _ _ _)).app (txtB_bys _)).app (txtB_bys _)).app (varB_bys _)).app (txtB_bys _))
theorem pack_free (l m : Letr) (hl : Right l) (hm : Right m) (hp : l.print < 18446744073709551616) (hq : m.print < 18446744073709551616) : strOfNums (packB l) = strOfNums (packB m) ↔ l = m := by
  constructor
  · intro h
    have h1 := strOfNums_inj _ _ ((headB_bys l hl).app (litB_bys _ _)) ((headB_bys m hm).app (litB_bys _ _)) h
    have h2 : (litB (crc (strOfNums (headB l))).toNat 4).length = (litB (crc (strOfNums (headB m))).toNat 4).length := by rw [litB_len, litB_len]
    exact head_free l m hl hm hp hq (List.append_inj_left' h1 h2)
  · rintro rfl; rfl
end Go.Proofs.YtnljdcghaecdaaaGreatDoor
