/-
  A range over a function, told by things side by side: an iterator may keep state of its own in cells. No program in sight.
-/
import Derived.Test.YtcaeechlpadboaaSep
import Derived.RangeFuncLeaves
import Derived.RangeFuncCalls
import Derived.RangeFuncOwn
import Derived.RangeFuncStops
import Derived.ControlIn
namespace Go.Proofs.Ytcaeechlpadboaa
open Go Go.RowKit

section
variable {base : Nat} {w0 w : World} {ts us : List Thing}
theorem Lie.comm (h : Lie base w0 w (ts ++ us)) : Lie base w0 w (us ++ ts) :=
  h.pick (fun i => if i < us.length then i + ts.length else i - us.length)
    (fun i j hi hj e => by
      rw [List.length_append] at hi hj
      split at e <;> split at e <;> omega)
    (fun i u hu => by
      by_cases hi : i < us.length
      · rw [if_pos hi, List.getElem?_append_right (by omega)]
        rw [List.getElem?_append_left hi] at hu
        rw [← hu]
        congr 1
        omega
      · rw [if_neg hi]
        rw [List.getElem?_append_right (by omega)] at hu
        rw [List.getElem?_append_left (List.getElem?_eq_some_iff.1 hu).1]
        exact hu)
theorem Lie.perm_aux {ts us : List Thing} (hp : ts.Perm us) : ∀ pre : List Thing, Lie base w0 w (pre ++ ts) → Lie base w0 w (pre ++ us) := by
  induction hp with
  | nil => exact fun _ h => h
  | cons x _ ih =>
    intro pre h
    have := ih (pre ++ [x]) (by simpa using h)
    simpa using this
  | swap x y l =>
    intro pre h
    refine h.pick (fun i => if i = pre.length then pre.length + 1 else if i = pre.length + 1 then pre.length else i) (fun i j _ _ e => ?_) (fun i u hu => ?_)
    · by_cases a : i = pre.length <;> by_cases b : j = pre.length <;> by_cases c : i = pre.length + 1 <;> by_cases d : j = pre.length + 1 <;> simp [a, b, c, d] at e <;> omega
    · by_cases a : i = pre.length
      · subst a
        rw [if_pos rfl, List.getElem?_append_right (by omega), show pre.length + 1 - pre.length = 1 by omega]
        rw [List.getElem?_append_right (Nat.le_refl _), Nat.sub_self] at hu
        exact hu
      · by_cases c : i = pre.length + 1
        · subst c
          rw [if_neg (by omega), if_pos rfl, List.getElem?_append_right (Nat.le_refl _), Nat.sub_self]
          rw [List.getElem?_append_right (by omega), show pre.length + 1 - pre.length = 1 by omega] at hu
          exact hu
        · rw [if_neg a, if_neg c]
          by_cases hlt : i < pre.length
          · rw [List.getElem?_append_left hlt] at hu ⊢
            exact hu
          · obtain ⟨k, rfl⟩ : ∃ k, i = pre.length + (k + 2) := ⟨i - pre.length - 2, by omega⟩
            rw [List.getElem?_append_right (by omega), show pre.length + (k + 2) - pre.length = k + 2 by omega] at hu ⊢
            exact hu
  | trans _ _ ih1 ih2 => exact fun pre h => ih2 pre (ih1 pre h)
theorem Lie.perm {ts us : List Thing} (h : Lie base w0 w ts) (hp : ts.Perm us) : Lie base w0 w us := Lie.perm_aux hp [] h
theorem Lie.put (h : Lie base w0 w ts) (n : Nat) {b : Nat} {o : Obj} (hn : ts[n]? = some (box b o)) (o' : Obj) : Lie base w0 (w.putObj b o') (ts.set n (box b o')) := by
  have h1 : w.heap[b]? = some o := h.get n hn
  refine h.step n hn (T := ⟨rfl, rfl, rfl, by simp, fun k _ hk => World.putObj_heap_other hk⟩) ?_ (fun k hk => .inl hk)
  exact World.putObj_heap_same (box_lt h1)
end

/-- The iterator's contract: it hands these, in their order, as long as it is told to go on; what lies beside it is the rounds' own. -/
def IterL {α : Type} (P : Program) (g : Nat) (lb : Array Value) (encs : α → Array Value) (xs : List α) (its : List Thing) (base : Nat) : Prop :=
  ∀ (l : Nat) (J Jx : List α → List Thing → Prop) (w0 W : World) (js : List Thing), J [] js → Lie base w0 W (its ++ js) →
    (∀ (m : Nat) (pre : List α) (x : α) (us js : List Thing) (W1 : World), pre ++ [x] <+: xs → J pre js → Lie base w0 W1 (us ++ js) →
      YieldAt Fence.wide m P l (encs x) W1 fun e W' => ∃ js', Lie base w0 W' (us ++ js') ∧ ((e = .returned (.bool true) ∧ J (pre ++ [x]) js') ∨ (e = .returned (.bool false) ∧ Jx (pre ++ [x]) js'))) →
    Calls P g (#[.func (.yield l) #[] #[]] ++ lb) W fun e W' => (∃ v, e = .returned v) ∧ ∃ js', Lie base w0 W' (its ++ js') ∧ (J xs js' ∨ ∃ pre, pre <+: xs ∧ Jx pre js')

/-- How a round may be left. -/
def liePost {α : Type} (I : List α → List Thing → Prop) (Ix : Code → List α → List Thing → Prop) (base : Nat) (w0 : World) (us : List Thing) (pre : List α) : Exit → Act → World → Prop
  | .normal, _, W => ∃ js, I pre js ∧ Lie base w0 W (js ++ us)
  | .ret, _, W => ∃ js, Ix .ret pre js ∧ Lie base w0 W (js ++ us)
  | .exit id, _, W => ∃ js, Ix (.exit id) pre js ∧ Lie base w0 W (js ++ us)
  | .goto t, _, W => ∃ js, Ix (.goto t) pre js ∧ Lie base w0 W (js ++ us)
  | .panic _, _, _ => False
  | .outgrown, _, _ => False

theorem wp_rangeFuncL {α : Type} {P : Program} {g : Operand} {ps : Array Tmp} {assign body : Code} {Q : Exit → Act → World → Prop} {a : Act} {w : World}
    {gf : Nat} {lb : Array Value} (hg : a.eval g = .func (.func gf) #[] lb) (eg : ∀ args w, (callFunc gf args).run P w = .ok (.enter gf args) w)
    {encs : α → Array Value} {xs : List α} {its : List Thing} {base : Nat} (hseq : IterL P gf lb encs xs its base) (hps : ∀ x, (encs x).size = ps.size)
    (I : List α → List Thing → Prop) (Ix : Code → List α → List Thing → Prop) {w0 : World} {js : List Thing} (h0 : I [] js) (hL : Lie base w0 w (its ++ js)) (a₁ : α → Act)
    (hassign : ∀ (l m : Nat) (x : α) (W : World) (K : Act → World → Prop), K (a₁ x) W →
      assign.wpIn (Fence.wide.inRound l) m P (Exit.then K (fun _ _ _ => False)) { tmps := (ps.zip (encs x)).foldl (fun t (p, v) => t.setIfInBounds p v) a.tmps, defers := [] } W)
    (hbody : ∀ (l m : Nat) (pre : List α) (x : α) (us js : List Thing) (W : World), pre ++ [x] <+: xs → I pre js → Lie base w0 W (js ++ us) → body.wpIn (Fence.wide.inRound l) m P (liePost I Ix base w0 us (pre ++ [x])) (a₁ x) W)
    (hdone : ∀ (D : Nat) (js : List Thing) (W : World), I xs js → Lie base w0 W (box D (.deferred (some [])) :: (its ++ js)) → Q .normal { a with defers := { target := .collected D, args := #[] } :: a.defers } W)
    (hstop : ∀ (D : Nat) (c : Code) (pre : List α) (js : List Thing) (W : World), pre <+: xs → Ix c pre js → Lie base w0 W (box D (.deferred (some [])) :: (its ++ js)) → c.wp P Q { a with defers := { target := .collected D, args := #[] } :: a.defers } W) :
    (Code.rangeFunc g ps assign body).wp P Q a w := by
  refine (wpIn_wide (n := 1)).1 (wpIn_rangeFunc ?_)
  intro fn hfn
  obtain ⟨rec, hrec⟩ : ∃ rec : LoopState → Option Code → Loop, rec = fun st pe => { state := st, pending := pe, fn, tmps := a.tmps, params := ps, assign, body, defers := w.heap.size } := ⟨_, rfl⟩
  obtain ⟨W1, hW1⟩ : ∃ W1, (w.alloc (.deferred (some []))).alloc (.loop (rec .ready none)) = W1 := ⟨_, rfl⟩
  have hL1 : Lie base w0 W1 (box (w.heap.size + 1) (.loop (rec .ready none)) :: box w.heap.size (.deferred (some [])) :: (its ++ js)) := by
    have := (hL.alloc (.deferred (some []))).alloc (.loop (rec .ready none))
    rw [World.size_alloc, hW1] at this
    exact this
  refine ⟨w.heap.size + 1, [{ target := .collected w.heap.size, args := #[] }], W1, { target := .fn (.func gf) lb, args := #[.func (.yield (w.heap.size + 1)) #[] #[]] }, W1, gf,
    #[.func (.yield (w.heap.size + 1)) #[] #[]] ++ lb, W1, ?_, ?_, ?_, ?_, fun _ => by omega, ?_⟩
  · rw [← hW1, hrec]; exact run_enterLoop_outer _ _ _ _ _
  · simp only [resolve, hg]
    simp [go_sem]
  · intro f' _; trivial
  · simp [invoke, go_sem, eg]
  · obtain ⟨bl, hbl⟩ : ∃ bl, bl = w.heap.size + 1 := ⟨_, rfl⟩
    obtain ⟨bD, hbD⟩ : ∃ bD, bD = w.heap.size := ⟨_, rfl⟩
    rw [← hbl, ← hbD] at hL1
    rw [← hbl]
    have hL1' : Lie base w0 W1 ([box bl (.loop (rec .ready none)), box bD (.deferred (some []))] ++ (its ++ js)) := hL1
    have hL2 : Lie base w0 W1 (its ++ ([box bl (.loop (rec .ready none)), box bD (.deferred (some []))] ++ js)) := hL1'.perm (List.perm_append_comm_assoc _ _ _)
    refine callsIn_wide.2 ((hseq bl (fun pre ks => ∃ is, I pre is ∧ ks = [box bl (.loop (rec .ready none)), box bD (.deferred (some []))] ++ is)
      (fun pre ks => ∃ c is, Ix c pre is ∧ ks = [box bl (.loop (rec .done (some c))), box bD (.deferred (some []))] ++ is) w0 W1 _ ⟨js, h0, rfl⟩ hL2 ?_).mono ?_)
    · -- a round
      rintro m pre x us _ W hpre ⟨is, hi, rfl⟩ hW
      have hA : Lie base w0 W ([box bl (.loop (rec .ready none)), box bD (.deferred (some []))] ++ (us ++ is)) := hW.perm (List.perm_append_comm_assoc _ _ _)
      have hl : W.heap[bl]? = some (.loop (rec .ready none)) := hA.get 0 rfl
      have hy := run_yield (P := P) (args := encs x) hl (by rw [hrec]; exact hps x)
      rw [hrec] at hy
      refine ⟨fn, _, assign, body, hy, roundIn_of_wpIn hfn (hassign _ m x W _ ⟨_, run_beginRound hl (by rw [hrec]), ?_⟩)⟩
      have hB : Lie base w0 (W.putObj bl (.loop { rec .ready none with state := .busy })) ([box bl (.loop { rec .ready none with state := .busy }), box bD (.deferred (some []))] ++ (us ++ is)) := hA.put 0 rfl _
      have hC : Lie base w0 (W.putObj bl (.loop { rec .ready none with state := .busy })) (is ++ (us ++ [box bl (.loop { rec .ready none with state := .busy }), box bD (.deferred (some []))])) := by
        have := hB.comm
        rw [List.append_assoc] at this
        exact this.perm (List.perm_append_comm_assoc _ _ _)
      refine wpIn_mono (hbody _ m pre x _ is _ hpre hi hC) ?_
      have fin : ∀ (jump : Option Code) (W3 : World) (is' : List Thing), Lie base w0 W3 (is' ++ (us ++ [box bl (.loop { rec .ready none with state := .busy }), box bD (.deferred (some []))])) →
          ∃ W4, (Instr.endRound bl jump).run P W3 = .ok (.bool jump.isNone) W4 ∧ Lie base w0 W4 (us ++ ([box bl (.loop (rec (if jump.isNone then .ready else .done) jump)), box bD (.deferred (some []))] ++ is')) := by
        intro jump W3 is' h3
        have h4 := h3.perm (List.perm_append_comm_assoc _ _ _)
        rw [← List.append_assoc] at h4
        have h5 := h4.comm
        have hl3 : W3.heap[bl]? = some (.loop { rec .ready none with state := .busy }) := h5.get 0 rfl
        have hr := run_endRound (P := P) jump hl3
        have h6 := (h5.put 0 rfl (.loop (rec (if jump.isNone then .ready else .done) jump))).perm (List.perm_append_comm_assoc _ _ _) (ts := [box bl (.loop (rec (if jump.isNone then .ready else .done) jump)), box bD (.deferred (some []))] ++ (us ++ is'))
        refine ⟨_, ?_, h6⟩
        rw [hr]
        rw [hrec]
      rintro e a3 W3 hp
      cases e with
      | normal =>
        obtain ⟨is', hi3, h3⟩ := hp
        obtain ⟨W4, hr, h4⟩ := fin none W3 is' h3
        exact ⟨_, _, hr, _, h4, .inl ⟨rfl, is', hi3, rfl⟩⟩
      | ret =>
        obtain ⟨is', hi3, h3⟩ := hp
        obtain ⟨W4, hr, h4⟩ := fin (some .ret) W3 is' h3
        exact ⟨_, _, hr, _, h4, .inr ⟨rfl, .ret, is', hi3, rfl⟩⟩
      | exit id =>
        obtain ⟨is', hi3, h3⟩ := hp
        obtain ⟨W4, hr, h4⟩ := fin (some (.exit id)) W3 is' h3
        exact ⟨_, _, hr, _, h4, .inr ⟨rfl, .exit id, is', hi3, rfl⟩⟩
      | goto t =>
        obtain ⟨is', hi3, h3⟩ := hp
        obtain ⟨W4, hr, h4⟩ := fin (some (.goto t)) W3 is' h3
        exact ⟨_, _, hr, _, h4, .inr ⟨rfl, .goto t, is', hi3, rfl⟩⟩
      | panic ch => exact hp.elim
      | outgrown => exact hp.elim
    · -- behind the iterator
      rintro e W2 ⟨⟨v, rfl⟩, ks, hW, hk⟩
      rcases hk with ⟨is, hi, rfl⟩ | ⟨pre, hpre, c, is, hi, rfl⟩
      · have hA := hW.perm (List.perm_append_comm_assoc _ _ _)
        have hl : W2.heap[bl]? = some (.loop (rec .ready none)) := hA.get 0 rfl
        have hr := run_endLoop (P := P) hl (by rw [hrec]; simp)
        have hB := (hA.put 0 rfl (.loop { rec .ready none with state := .exhausted })).pop
        have := hdone bD is _ hi hB
        rw [hbD] at this
        subst hrec
        exact ⟨none, _, hr, this⟩
      · have hA := hW.perm (List.perm_append_comm_assoc _ _ _)
        have hl : W2.heap[bl]? = some (.loop (rec .done (some c))) := hA.get 0 rfl
        have hr := run_endLoop (P := P) hl (by rw [hrec]; simp)
        have hB := (hA.put 0 rfl (.loop { rec .done (some c) with state := .exhausted })).pop
        have := hstop bD c pre is _ hpre hi hB
        rw [hbD] at this
        subst hrec
        exact ⟨some c, _, hr, wpIn_wide.2 this⟩
end Go.Proofs.Ytcaeechlpadboaa
