/-
  RetryAlls: the laws of its walk.
-/
import Derived.Test.YtdgoofchadfepaaHolds3
import Derived.LoopN
namespace Go.Proofs.Ytdgoofchadfepaa
open Go.RowKit Go.Shelf
attribute [local go_sem] Oper.semAt_some

theorem Lie.ne {base : Nat} {w0 w : World} {ts : List Thing} (h : Lie base w0 w ts) (i j : Nat) {b c : Nat} {o o' : Obj} (hi : ts[i]? = some (box b o)) (hj : ts[j]? = some (box c o')) (hij : i ≠ j) : b ≠ c := by
  rintro rfl
  exact h.apart i j _ _ hij hi hj b rfl rfl
/-- The act with which a round begins: two loop variables. -/
def asgAct (a : Act) (p1 p2 u1 u2 : Nat) (v1 v2 : Value) : Act := { tmps := (((a.tmps.setIfInBounds p1 v1).setIfInBounds p2 v2).setIfInBounds u1 v1).setIfInBounds u2 v2, defers := [] }
theorem wp_rangeFuncL2 {α : Type} {P : Program} {g : Operand} {p1 p2 : Tmp} {assign body : Code} {Q : Exit → Act → World → Prop} {a : Act} {w : World} (u1 u2 : Nat)
    {gf : Nat} {lb : Array Value} (hg : a.eval g = .func (.func gf) #[] lb) (eg : ∀ args w, (callFunc gf args).run P w = .ok (.enter gf args) w)
    {e1 e2 : α → Value} {xs : List α} {its : List Thing} {base : Nat} (hseq : IterL P gf lb (fun x => #[e1 x, e2 x]) xs its base)
    (I : List α → List Thing → Prop) (Ix : Code → List α → List Thing → Prop) {w0 : World} {js : List Thing} (h0 : I [] js) (hL : Lie base w0 w (its ++ js))
    (hassign : ∀ (l m : Nat) (x : α) (W : World) (K : Act → World → Prop), K (asgAct a p1 p2 u1 u2 (e1 x) (e2 x)) W →
      assign.wpIn (Fence.wide.inRound l) m P (Exit.then K (fun _ _ _ => False)) { tmps := ((#[p1, p2] : Array Tmp).zip #[e1 x, e2 x]).foldl (fun t (p, v) => t.setIfInBounds p v) a.tmps, defers := [] } W)
    (hbody : ∀ (l m : Nat) (pre : List α) (x : α) (us js : List Thing) (W : World), pre ++ [x] <+: xs → I pre js → Lie base w0 W (js ++ us) → body.wpIn (Fence.wide.inRound l) m P (liePost I Ix base w0 us (pre ++ [x])) (asgAct a p1 p2 u1 u2 (e1 x) (e2 x)) W)
    (hdone : ∀ (D : Nat) (js : List Thing) (W : World), I xs js → Lie base w0 W (box D (.deferred (some [])) :: (its ++ js)) → Q .normal { a with defers := { target := .collected D, args := #[] } :: a.defers } W)
    (hstop : ∀ (D : Nat) (c : Code) (pre : List α) (js : List Thing) (W : World), pre <+: xs → Ix c pre js → Lie base w0 W (box D (.deferred (some [])) :: (its ++ js)) → c.wp P Q { a with defers := { target := .collected D, args := #[] } :: a.defers } W) :
    (Code.rangeFunc g #[p1, p2] assign body).wp P Q a w :=
  wp_rangeFuncL hg eg hseq (fun _ => rfl) I Ix h0 hL (fun x => asgAct a p1 p2 u1 u2 (e1 x) (e2 x)) (fun l m x W K hK => hassign l m x W K hK) hbody hdone hstop

/-- What lies there between two rounds. -/
def AllsC (p : Po) (a ag : Int) (pb' lb rb ab nb sb : Nat) (rest : List Thing) (pre : List (Int × Int)) (js : List Thing) : Prop :=
  js = [ibox sb (sumOf pre) 2, ibox nb pre.length 3, ibox ab ag 3, box rb (.cells #[.bool false] 4 (0, 0)), ibox lb a 3, box pb' (pobj p)] ++ rest
def AllsI (p : Po) (a ag : Int) (pb' lb rb ab nb sb : Nat) (rest : List Thing) (pre : List (Int × Int)) (js : List Thing) : Prop :=
  (ag = 0 → ∀ k : Nat, 1 ≤ k → k ≤ pre.length → (k : Int) ≠ a) ∧ AllsC p a ag pb' lb rb ab nb sb rest pre js
/-- The round was left. -/
def AllsX (p : Po) (a ag : Int) (pb' lb rb ab nb sb : Nat) (rest : List Thing) (c : Code) (pre : List (Int × Int)) (js : List Thing) : Prop :=
  c = .exit 2 ∧ 1 ≤ pre.length ∧ (pre.length : Int) = a ∧ AllsC p a ag pb' lb rb ab nb sb rest pre js
abbrev bbox (b : Nat) (v : Bool) (t : TypeId) : Thing := box b (.cells #[.bool v] t (0, 0))
theorem total_Ls {base : Nat} {w0 w : World} {ts : List Thing} {s : Int} (p : Po) (hs : totalOf p = s) (h : Lie base w0 w ts) : Calls Try.prog 11 #[p.v] w (TL (.int .i64 s) base w0 ts) := hs ▸ total_L p h
theorem no_step {a : Int} {k n : Nat} (hn : n = k + 1) (h0 : ∀ j : Nat, 1 ≤ j → j ≤ k → (j : Int) ≠ a) (hne : ((k + 1 : Nat) : Int) ≠ a) : ∀ j : Nat, 1 ≤ j → j ≤ n → (j : Int) ≠ a := by
  subst hn
  intro j h1 h2
  by_cases h : j ≤ k
  · exact h0 j h1 h
  · obtain rfl : j = k + 1 := by omega
    exact hne
theorem perm_mid {α : Type} (X : List α) (d q : α) (R : List α) : (X ++ d :: q :: R).Perm (q :: (X ++ R ++ [d])) := by
  have h1 : (X ++ d :: q :: R).Perm (q :: (X ++ [d] ++ R)) := by
    rw [show X ++ d :: q :: R = (X ++ [d]) ++ q :: R by simp]
    exact List.perm_middle
  refine h1.trans (.cons _ ?_)
  rw [List.append_assoc, List.append_assoc]
  exact .append_left _ List.perm_append_comm
end Go.Proofs.Ytdgoofchadfepaa
