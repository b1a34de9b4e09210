/-
  A whole text's tokens, reckoned.
-/
import Derived.Test.YtnljdcghaecdaaaGreatDoorNxt
namespace Go.Proofs.YtnljdcghaecdaaaGreatDoor
open Go.RowKit Go.Lib Go.Maps
attribute [local go_sem] Oper.semAt_some

/-- The next token, and where it ends. -/
inductive Nx (s : ByteArray) (a : Nat) : TokD → Nat → Prop
  | word (p : Nat) (k : Skip s a p) (h : p < s.size) (hl : letterB (byt s p) = true) (hz : (s.extract p (stop innerB s p)).size ≤ 32) : Nx s a ⟨1, s.extract p (stop innerB s p), 0, p⟩ (stop innerB s p)
  | sign (p : Nat) (k : Skip s a p) (h : p < s.size) (hl : letterB (byt s p) = false) (hd : digitB (byt s p) = false) (hi : 0 ≤ Lib.indexByte (⟨#[123, 125, 40, 41, 59, 58, 44, 46]⟩ : ByteArray).data.toList (byt s p).toNat.toUInt8) : Nx s a ⟨3, s.extract p (p + 1), 0, p⟩ (p + 1)
  | arr (p : Nat) (k : Skip s a p) (h : p < s.size) (hl : letterB (byt s p) = false) (hd : digitB (byt s p) = false) (hi : Lib.indexByte (⟨#[123, 125, 40, 41, 59, 58, 44, 46]⟩ : ByteArray).data.toList (byt s p).toNat.toUInt8 < 0) (hp2 : p + 2 ≤ s.size) (ha : Lib.hasPrefix (s.extract p s.size).data.toList [45, 62] = true) : Nx s a ⟨3, ⟨#[45, 62]⟩, 0, p⟩ (p + 2)
  | num (p : Nat) (k : Skip s a p) (h : p < s.size) (hl : letterB (byt s p) = false) (h49 : byt s p = 49) (hx : s.extract p (stop digitB s p) = ⟨#[49]⟩) : Nx s a ⟨2, ⟨#[49]⟩, 1, p⟩ (stop digitB s p)
inductive Toks (s : ByteArray) : Nat → List TokD → Prop
  | done {a : Nat} (k : Skip s a s.size) : Toks s a []
  | more {a q : Nat} {t : TokD} {l : List TokD} (n : Nx s a t q) (m : Toks s q l) : Toks s a (t :: l)
def stopF (f : Int → Bool) (s : ByteArray) : Nat → Nat → Nat
  | 0, a => a
  | n + 1, a => if a < s.size then (if f (byt s a) then stopF f s n (a + 1) else a) else a
theorem stopF_is (f : Int → Bool) (s : ByteArray) : ∀ n a, s.size ≤ a + n → stopF f s n a = stop f s a
  | 0, a, h => by rw [stop_end (by omega)]; rfl
  | n + 1, a, h => by
    unfold stopF
    rw [stop]
    split
    · split
      · exact stopF_is f s n (a + 1) (by omega)
      · rfl
    · rfl
def skipF (s : ByteArray) (a p : Nat) : Bool := decide (p ≤ s.size) && decide (a ≤ p) && (!decide (p < s.size) || (byt s p != 32 && byt s p != 9 && byt s p != 10 && byt s p != 13 && byt s p != 47))
theorem skipF_is {s : ByteArray} {a p : Nat} (hp : stopF spB s s.size a = p) (h : skipF s a p = true) : Skip s a p := by
  unfold skipF at h
  simp only [Bool.and_eq_true, Bool.or_eq_true, decide_eq_true_eq, Bool.not_eq_true', decide_eq_false_iff_not, bne_iff_ne, ne_eq] at h
  obtain ⟨⟨h1, h2⟩, h3⟩ := h
  refine ⟨by rw [← stopF_is spB s s.size a (by omega), hp], h1, h2, fun hlt => ?_⟩
  rcases h3 with h3 | h3
  · exact absurd hlt h3
  · exact ⟨h3.1.1.1.1, h3.1.1.1.2, h3.1.1.2, h3.1.2, h3.2⟩
def signs : List UInt8 := [123, 125, 40, 41, 59, 58, 44, 46]
def nxF (s : ByteArray) (a : Nat) : Option (TokD × Nat) :=
  let p := stopF spB s s.size a
  if skipF s a p && decide (p < s.size) then
    if letterB (byt s p) then
      let q := stopF innerB s s.size p
      if (s.extract p q).size ≤ 32 then some (⟨1, s.extract p q, 0, p⟩, q) else none
    else if byt s p = 49 then
      let q := stopF digitB s s.size p
      if (s.extract p q).data.toList = [49] then some (⟨2, ⟨#[49]⟩, 1, p⟩, q) else none
    else if digitB (byt s p) then none
    else if 0 ≤ Lib.indexByte signs (byt s p).toNat.toUInt8 then some (⟨3, s.extract p (p + 1), 0, p⟩, p + 1)
    else if p + 2 ≤ s.size then if Lib.hasPrefix (s.extract p s.size).data.toList [45, 62] then some (⟨3, ⟨#[45, 62]⟩, 0, p⟩, p + 2) else none else none
  else none
theorem nxF_is {s : ByteArray} {a : Nat} {t : TokD} {q : Nat} (h : nxF s a = some (t, q)) : Nx s a t q := by
  unfold nxF at h
  obtain ⟨p, hp⟩ : ∃ p, stopF spB s s.size a = p := ⟨_, rfl⟩
  simp only [hp] at h
  split at h
  case isFalse => cases h
  rename_i h0
  rw [Bool.and_eq_true, decide_eq_true_eq] at h0
  have hk := skipF_is hp h0.1
  have hin : stopF innerB s s.size p = stop innerB s p := stopF_is _ _ _ _ (by omega)
  have hdi : stopF digitB s s.size p = stop digitB s p := stopF_is _ _ _ _ (by omega)
  rw [hin, hdi] at h
  split at h
  · rename_i hl
    split at h
    · rename_i hz
      cases h
      exact .word p hk h0.2 hl hz
    · cases h
  · rename_i hl
    have hl : letterB (byt s p) = false := by simpa using hl
    split at h
    · rename_i h49
      split at h
      · rename_i hx
        cases h
        refine .num p hk h0.2 hl h49 ?_
        have e : ∀ b : ByteArray, b.data.toList = [49] → b = ⟨#[49]⟩ := fun b hb => by
          cases b with | mk d => cases d with | mk l => simp at hb; subst hb; rfl
        exact e _ hx
      · cases h
    · split at h
      · cases h
      · rename_i hd
        have hd : digitB (byt s p) = false := by simpa using hd
        split at h
        · rename_i hi
          cases h
          exact .sign p hk h0.2 hl hd hi
        · rename_i hi
          split at h
          · rename_i hp2
            split at h
            · rename_i ha
              cases h
              exact .arr p hk h0.2 hl hd (Int.not_le.1 hi) hp2 ha
            · cases h
          · cases h
def toksF (s : ByteArray) : Nat → Nat → Option (List TokD)
  | 0, _ => none
  | n + 1, a => match nxF s a with
    | some (t, q) => (toksF s n q).map (t :: ·)
    | none => if stopF spB s s.size a = s.size ∧ skipF s a s.size = true then some [] else none
theorem toksF_is {s : ByteArray} : ∀ (n a : Nat) (l : List TokD), toksF s n a = some l → Toks s a l
  | 0, a, l, h => by cases h
  | n + 1, a, l, h => by
    unfold toksF at h
    split at h
    · rename_i t q hn
      cases ht : toksF s n q with
      | none => rw [ht] at h; cases h
      | some m =>
        rw [ht] at h
        cases h
        exact .more (nxF_is hn) (toksF_is n q m ht)
    · split at h
      · rename_i h0
        cases h
        exact .done (skipF_is h0.1 h0.2)
      · cases h
section
variable {B : Nat} {w0 w : World} {ts : List Thing} {r : Nat} {s : ByteArray} {a : Nat}
theorem token_any {t : TokD} {q : Nat} (n : Nx s a t q) (hs : s.size ≤ 60000) (h : Hid (Lie B w0 w (rbx r s a :: ts))) :
    Calls Tryz.prog 66 #[.pointer (some ⟨r, 0, none⟩)] w (TokTo t true B w0 (rbx r s q :: ts)) := by
  cases n with
  | word p k hp hl hz => exact next_word p (hide k) hs hp (hide hl) hz h
  | sign p k hp hl hd hi => exact next_sign p (hide k) hs hp (hide hl) (hide hd) (hide hi) h
  | arr p k hp hl hd hi hp2 ha => exact next_arr p (hide k) hs hp (hide hl) (hide hd) (hide hi) hp2 (hide ha) h
  | num p k hp hl h49 hx => exact next_num p (hide k) hs hp (hide hl) h49 (hide hx) h
end
/-- The house's text, and its tokens. -/
def wakeT : ByteArray := ⟨#[109, 111, 100, 117, 108, 101, 32, 109, 59, 32, 114, 101, 99, 111, 114, 100, 32, 79, 32, 123, 32, 97, 99, 99, 111, 117, 110, 116, 58, 32, 116, 101, 120, 116, 59, 32, 97, 109, 111, 117, 110, 116, 58, 32, 105, 110, 116, 59, 32, 125, 32, 115, 101, 114, 118, 105, 99, 101, 32, 83, 32, 123, 32, 103, 105, 118, 101, 32, 116, 40, 79, 41, 32, 45, 62, 32, 105, 110, 116, 32, 117, 110, 100, 111, 32, 117, 59, 32, 116, 97, 107, 101, 32, 117, 40, 79, 41, 32, 45, 62, 32, 110, 111, 110, 101, 59, 32, 125, 32, 115, 97, 103, 97, 32, 103, 40, 79, 41, 32, 123, 32, 100, 111, 32, 83, 46, 116, 32, 97, 116, 32, 49, 59, 32, 125]⟩
def wakeL : List TokD := [⟨1, ⟨#[109, 111, 100, 117, 108, 101]⟩, 0, 0⟩,
  ⟨1, ⟨#[109]⟩, 0, 7⟩,
  ⟨3, ⟨#[59]⟩, 0, 8⟩,
  ⟨1, ⟨#[114, 101, 99, 111, 114, 100]⟩, 0, 10⟩,
  ⟨1, ⟨#[79]⟩, 0, 17⟩,
  ⟨3, ⟨#[123]⟩, 0, 19⟩,
  ⟨1, ⟨#[97, 99, 99, 111, 117, 110, 116]⟩, 0, 21⟩,
  ⟨3, ⟨#[58]⟩, 0, 28⟩,
  ⟨1, ⟨#[116, 101, 120, 116]⟩, 0, 30⟩,
  ⟨3, ⟨#[59]⟩, 0, 34⟩,
  ⟨1, ⟨#[97, 109, 111, 117, 110, 116]⟩, 0, 36⟩,
  ⟨3, ⟨#[58]⟩, 0, 42⟩,
  ⟨1, ⟨#[105, 110, 116]⟩, 0, 44⟩,
  ⟨3, ⟨#[59]⟩, 0, 47⟩,
  ⟨3, ⟨#[125]⟩, 0, 49⟩,
  ⟨1, ⟨#[115, 101, 114, 118, 105, 99, 101]⟩, 0, 51⟩,
  ⟨1, ⟨#[83]⟩, 0, 59⟩,
  ⟨3, ⟨#[123]⟩, 0, 61⟩,
  ⟨1, ⟨#[103, 105, 118, 101]⟩, 0, 63⟩,
  ⟨1, ⟨#[116]⟩, 0, 68⟩,
  ⟨3, ⟨#[40]⟩, 0, 69⟩,
  ⟨1, ⟨#[79]⟩, 0, 70⟩,
  ⟨3, ⟨#[41]⟩, 0, 71⟩,
  ⟨3, ⟨#[45, 62]⟩, 0, 73⟩,
  ⟨1, ⟨#[105, 110, 116]⟩, 0, 76⟩,
  ⟨1, ⟨#[117, 110, 100, 111]⟩, 0, 80⟩,
  ⟨1, ⟨#[117]⟩, 0, 85⟩,
  ⟨3, ⟨#[59]⟩, 0, 86⟩,
  ⟨1, ⟨#[116, 97, 107, 101]⟩, 0, 88⟩,
  ⟨1, ⟨#[117]⟩, 0, 93⟩,
  ⟨3, ⟨#[40]⟩, 0, 94⟩,
  ⟨1, ⟨#[79]⟩, 0, 95⟩,
  ⟨3, ⟨#[41]⟩, 0, 96⟩,
  ⟨3, ⟨#[45, 62]⟩, 0, 98⟩,
  ⟨1, ⟨#[110, 111, 110, 101]⟩, 0, 101⟩,
  ⟨3, ⟨#[59]⟩, 0, 105⟩,
  ⟨3, ⟨#[125]⟩, 0, 107⟩,
  ⟨1, ⟨#[115, 97, 103, 97]⟩, 0, 109⟩,
  ⟨1, ⟨#[103]⟩, 0, 114⟩,
  ⟨3, ⟨#[40]⟩, 0, 115⟩,
  ⟨1, ⟨#[79]⟩, 0, 116⟩,
  ⟨3, ⟨#[41]⟩, 0, 117⟩,
  ⟨3, ⟨#[123]⟩, 0, 119⟩,
  ⟨1, ⟨#[100, 111]⟩, 0, 121⟩,
  ⟨1, ⟨#[83]⟩, 0, 124⟩,
  ⟨3, ⟨#[46]⟩, 0, 125⟩,
  ⟨1, ⟨#[116]⟩, 0, 126⟩,
  ⟨1, ⟨#[97, 116]⟩, 0, 128⟩,
  ⟨2, ⟨#[49]⟩, 1, 131⟩,
  ⟨3, ⟨#[59]⟩, 0, 132⟩,
  ⟨3, ⟨#[125]⟩, 0, 134⟩]
set_option maxRecDepth 100000 in
theorem wakeL_is : toksF wakeT 100 0 = some wakeL := by kernel_rfl
theorem wake_toks : Toks wakeT 0 wakeL := toksF_is 100 0 wakeL wakeL_is
end Go.Proofs.YtnljdcghaecdaaaGreatDoor
