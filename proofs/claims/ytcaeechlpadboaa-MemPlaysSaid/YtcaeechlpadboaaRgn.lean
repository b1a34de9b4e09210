/-
  A range over a function whose iterator reads what lies among the rounds' own things. No program in sight.
-/
import Derived.Test.YtcaeechlpadboaaRws
import Derived.Test.YtcaeechlpadboaaRange
namespace Go.Proofs.Ytcaeechlpadboaa
open Go Go.RowKit

/-- The iterator's contract: it hands these, in their order, as long as it is told to go on; what it reads stays among the rounds' own things. -/
def IterN {α : Type} (P : Program) (g : Nat) (lb : Array Value) (encs : α → Array Value) (xs : List α) (needs : List Thing → Prop) (base : Nat) : Prop :=
  ∀ (l : Nat) (J Jx : List α → List Thing → Prop) (w0 W : World) (js : List Thing), (∀ pre js, J pre js → needs js) → J [] js → Lie base w0 W js →
    (∀ (m : Nat) (pre : List α) (x : α) (js : List Thing) (W1 : World), pre ++ [x] <+: xs → J pre js → Lie base w0 W1 js →
      YieldAt Fence.wide m P l (encs x) W1 fun e W' => ∃ js', Lie base w0 W' js' ∧ ((e = .returned (.bool true) ∧ J (pre ++ [x]) js') ∨ (e = .returned (.bool false) ∧ Jx (pre ++ [x]) js'))) →
    Calls P g (#[.func (.yield l) #[] #[]] ++ lb) W fun e W' => (∃ v, e = .returned v) ∧ ∃ js', Lie base w0 W' js' ∧ (J xs js' ∨ ∃ pre, pre <+: xs ∧ Jx pre js')
/-- The act with which a round begins. -/
def asgAct {α : Type} (a : Act) (p1 p2 : Nat) (e1 e2 : α → Value) (us : List (Nat × (α → Value))) (x : α) : Act :=
  { tmps := us.foldl (fun t u => t.setIfInBounds u.1 (u.2 x)) ((a.tmps.setIfInBounds p1 (e1 x)).setIfInBounds p2 (e2 x)), defers := [] }

theorem wp_rangeFuncN {α : Type} {P : Program} {g : Operand} {ps : Array Tmp} {assign body : Code} {Q : Exit → Act → World → Prop} {a : Act} {w : World}
    {gf : Nat} {lb : Array Value} (hg : a.eval g = .func (.func gf) #[] lb) (eg : ∀ args w, (callFunc gf args).run P w = .ok (.enter gf args) w)
    {encs : α → Array Value} {xs : List α} {needs : List Thing → Prop} {base : Nat} (hseq : IterN P gf lb encs xs needs base) (hps : ∀ x, (encs x).size = ps.size)
    (I : List α → List Thing → Prop) (Ix : Code → List α → List Thing → Prop) (hneeds : ∀ pre js, I pre js → needs js) (hup : ∀ t js, needs js → needs (t :: js)) {w0 : World} {js : List Thing} (h0 : I [] js) (hL : Lie base w0 w js) (a₁ : α → Act)
    (hassign : ∀ (l m : Nat) (x : α) (W : World) (K : Act → World → Prop), K (a₁ x) W →
      assign.wpIn (Fence.wide.inRound l) m P (Exit.then K (fun _ _ _ => False)) { tmps := (ps.zip (encs x)).foldl (fun t (p, v) => t.setIfInBounds p v) a.tmps, defers := [] } W)
    (hbody : ∀ (l m : Nat) (pre : List α) (x : α) (us js : List Thing) (W : World), pre ++ [x] <+: xs → I pre js → Lie base w0 W (js ++ us) → body.wpIn (Fence.wide.inRound l) m P (liePost I Ix base w0 us (pre ++ [x])) (a₁ x) W)
    (hdone : ∀ (D : Nat) (js : List Thing) (W : World), I xs js → Lie base w0 W (box D (.deferred (some [])) :: js) → Q .normal { a with defers := { target := .collected D, args := #[] } :: a.defers } W)
    (hstop : ∀ (D : Nat) (c : Code) (pre : List α) (js : List Thing) (W : World), pre <+: xs → Ix c pre js → Lie base w0 W (box D (.deferred (some [])) :: js) → c.wp P Q { a with defers := { target := .collected D, args := #[] } :: a.defers } W) :
    (Code.rangeFunc g ps assign body).wp P Q a w := by
  refine (wpIn_wide (n := 1)).1 (wpIn_rangeFunc ?_)
  intro fn hfn
  obtain ⟨rec, hrec⟩ : ∃ rec : LoopState → Option Code → Loop, rec = fun st pe => { state := st, pending := pe, fn, tmps := a.tmps, params := ps, assign, body, defers := w.heap.size } := ⟨_, rfl⟩
  obtain ⟨W1, hW1⟩ : ∃ W1, (w.alloc (.deferred (some []))).alloc (.loop (rec .ready none)) = W1 := ⟨_, rfl⟩
  have hL1 : Lie base w0 W1 (box (w.heap.size + 1) (.loop (rec .ready none)) :: box w.heap.size (.deferred (some [])) :: js) := by
    have := (hL.alloc (.deferred (some []))).alloc (.loop (rec .ready none))
    rw [World.size_alloc, hW1] at this
    exact this
  refine ⟨w.heap.size + 1, [{ target := .collected w.heap.size, args := #[] }], W1, { target := .fn (.func gf) lb, args := #[.func (.yield (w.heap.size + 1)) #[] #[]] }, W1, gf,
    #[.func (.yield (w.heap.size + 1)) #[] #[]] ++ lb, W1, ?_, ?_, ?_, ?_, fun _ => by omega, ?_⟩
  · rw [← hW1, hrec]; exact run_enterLoop_outer _ _ _ _ _
  · simp only [resolve, hg]
    simp [go_sem]
  · intro f' _; trivial
  · simp [invoke, go_sem, eg]
  · obtain ⟨bl, hbl⟩ : ∃ bl, bl = w.heap.size + 1 := ⟨_, rfl⟩
    obtain ⟨bD, hbD⟩ : ∃ bD, bD = w.heap.size := ⟨_, rfl⟩
    rw [← hbl, ← hbD] at hL1
    rw [← hbl]
    refine callsIn_wide.2 ((hseq bl (fun pre ks => ∃ is, I pre is ∧ ks = [box bl (.loop (rec .ready none)), box bD (.deferred (some []))] ++ is)
      (fun pre ks => ∃ c is, Ix c pre is ∧ ks = [box bl (.loop (rec .done (some c))), box bD (.deferred (some []))] ++ is) w0 W1 _ ?_ ⟨js, h0, rfl⟩ hL1 ?_).mono ?_)
    · rintro pre _ ⟨is, hi, rfl⟩
      exact hup _ _ (hup _ _ (hneeds pre is hi))
    · -- a round
      rintro m pre x _ W hpre ⟨is, hi, rfl⟩ hA
      have hl : W.heap[bl]? = some (.loop (rec .ready none)) := hA.get 0 rfl
      have hy := run_yield (P := P) (args := encs x) hl (by rw [hrec]; exact hps x)
      rw [hrec] at hy
      refine ⟨fn, _, assign, body, hy, roundIn_of_wpIn hfn (hassign _ m x W _ ⟨_, run_beginRound hl (by rw [hrec]), ?_⟩)⟩
      have hB : Lie base w0 (W.putObj bl (.loop { rec .ready none with state := .busy })) ([box bl (.loop { rec .ready none with state := .busy }), box bD (.deferred (some []))] ++ is) := hA.put 0 rfl _
      refine wpIn_mono (hbody _ m pre x _ is _ hpre hi hB.comm) ?_
      have fin : ∀ (jump : Option Code) (W3 : World) (is' : List Thing), Lie base w0 W3 (is' ++ [box bl (.loop { rec .ready none with state := .busy }), box bD (.deferred (some []))]) →
          ∃ W4, (Instr.endRound bl jump).run P W3 = .ok (.bool jump.isNone) W4 ∧ Lie base w0 W4 ([box bl (.loop (rec (if jump.isNone then .ready else .done) jump)), box bD (.deferred (some []))] ++ is') := by
        intro jump W3 is' h3
        have h5 := h3.comm
        have hl3 : W3.heap[bl]? = some (.loop { rec .ready none with state := .busy }) := h5.get 0 rfl
        have hr := run_endRound (P := P) jump hl3
        have h6 := h5.put 0 rfl (.loop (rec (if jump.isNone then .ready else .done) jump))
        refine ⟨_, ?_, h6⟩
        rw [hr]
        rw [hrec]
      rintro e a3 W3 hp
      cases e with
      | normal =>
        obtain ⟨is', hi3, h3⟩ := hp
        obtain ⟨W4, hr, h4⟩ := fin none W3 is' h3
        exact ⟨_, _, hr, _, h4, .inl ⟨rfl, is', hi3, rfl⟩⟩
      | ret =>
        obtain ⟨is', hi3, h3⟩ := hp
        obtain ⟨W4, hr, h4⟩ := fin (some .ret) W3 is' h3
        exact ⟨_, _, hr, _, h4, .inr ⟨rfl, .ret, is', hi3, rfl⟩⟩
      | exit id =>
        obtain ⟨is', hi3, h3⟩ := hp
        obtain ⟨W4, hr, h4⟩ := fin (some (.exit id)) W3 is' h3
        exact ⟨_, _, hr, _, h4, .inr ⟨rfl, .exit id, is', hi3, rfl⟩⟩
      | goto t =>
        obtain ⟨is', hi3, h3⟩ := hp
        obtain ⟨W4, hr, h4⟩ := fin (some (.goto t)) W3 is' h3
        exact ⟨_, _, hr, _, h4, .inr ⟨rfl, .goto t, is', hi3, rfl⟩⟩
      | panic ch => exact hp.elim
      | outgrown => exact hp.elim
    · -- behind the iterator
      rintro e W2 ⟨⟨v, rfl⟩, ks, hW, hk⟩
      rcases hk with ⟨is, hi, rfl⟩ | ⟨pre, hpre, c, is, hi, rfl⟩
      · have hA := hW
        have hl : W2.heap[bl]? = some (.loop (rec .ready none)) := hA.get 0 rfl
        have hr := run_endLoop (P := P) hl (by rw [hrec]; simp)
        have hB := (hA.put 0 rfl (.loop { rec .ready none with state := .exhausted })).pop
        have := hdone bD is _ hi hB
        rw [hbD] at this
        subst hrec
        exact ⟨none, _, hr, this⟩
      · have hA := hW
        have hl : W2.heap[bl]? = some (.loop (rec .done (some c))) := hA.get 0 rfl
        have hr := run_endLoop (P := P) hl (by rw [hrec]; simp)
        have hB := (hA.put 0 rfl (.loop { rec .done (some c) with state := .exhausted })).pop
        have := hstop bD c pre is _ hpre hi hB
        rw [hbD] at this
        subst hrec
        exact ⟨some c, _, hr, wpIn_wide.2 this⟩

theorem wp_rangeFunc2 {α : Type} {P : Program} {g : Operand} {p1 p2 : Tmp} {assign body : Code} {Q : Exit → Act → World → Prop} {a : Act} {w : World} {e1 e2 : α → Value} (us : List (Nat × (α → Value)))
    {gf : Nat} {lb : Array Value} (hg : a.eval g = .func (.func gf) #[] lb) (eg : ∀ args w, (callFunc gf args).run P w = .ok (.enter gf args) w)
    {xs : List α} {needs : List Thing → Prop} {base : Nat} (hseq : IterN P gf lb (fun x => #[e1 x, e2 x]) xs needs base)
    (I : List α → List Thing → Prop) (Ix : Code → List α → List Thing → Prop) (hneeds : ∀ pre js, I pre js → needs js) (hup : ∀ t js, needs js → needs (t :: js)) {w0 : World} {js : List Thing} (h0 : I [] js) (hL : Lie base w0 w js)
    (hassign : ∀ (l m : Nat) (x : α) (W : World) (K : Act → World → Prop), K (asgAct a p1 p2 e1 e2 us x) W →
      assign.wpIn (Fence.wide.inRound l) m P (Exit.then K (fun _ _ _ => False)) { tmps := ((#[p1, p2] : Array Tmp).zip #[e1 x, e2 x]).foldl (fun t (p, v) => t.setIfInBounds p v) a.tmps, defers := [] } W)
    (hbody : ∀ (l m : Nat) (pre : List α) (x : α) (us' js : List Thing) (W : World), pre ++ [x] <+: xs → I pre js → Lie base w0 W (js ++ us') → body.wpIn (Fence.wide.inRound l) m P (liePost I Ix base w0 us' (pre ++ [x])) (asgAct a p1 p2 e1 e2 us x) W)
    (hdone : ∀ (D : Nat) (js : List Thing) (W : World), I xs js → Lie base w0 W (box D (.deferred (some [])) :: js) → Q .normal { a with defers := { target := .collected D, args := #[] } :: a.defers } W)
    (hstop : ∀ (D : Nat) (c : Code) (pre : List α) (js : List Thing) (W : World), pre <+: xs → Ix c pre js → Lie base w0 W (box D (.deferred (some [])) :: js) → c.wp P Q { a with defers := { target := .collected D, args := #[] } :: a.defers } W) :
    (Code.rangeFunc g #[p1, p2] assign body).wp P Q a w :=
  wp_rangeFuncN hg eg hseq (fun _ => rfl) I Ix hneeds hup h0 hL (fun x => asgAct a p1 p2 e1 e2 us x) (fun l m x W K hK => hassign l m x W K hK) hbody hdone hstop
theorem Lie.ne {base : Nat} {w0 w : World} {ts : List Thing} (h : Lie base w0 w ts) (i j : Nat) {b c : Nat} {o o' : Obj} (hi : ts[i]? = some (box b o)) (hj : ts[j]? = some (box c o')) (hij : i ≠ j) : b ≠ c := by
  rintro rfl
  exact h.apart i j _ _ hij hi hj b rfl rfl
theorem Lie.of_below {base : Nat} {w0 w w' : World} {ts : List Thing} (h : Lie base w0 w ts) (hb : Below w.heap.size w w') : Lie base w0 w' ts := h.stay (Turn.of_below hb)
theorem cell1 {w : World} {b : Nat} {v : Value} {t : TypeId} (h : w.heap[b]? = some (.cells #[v] t (0, 0))) : w.cell? ⟨b, 0, none⟩ = some v ∧ w.frozen? ⟨b, 0, none⟩ = false := by
  simp [World.cell?, World.frozen?, h]
theorem run_equalIn_func_nil {P : Program} (w : World) (d : Nat) (t : TypeId) {ps rs : Array TypeId} {vd : Bool} (fn : Fn) (fi ca : Array Value) (h : P.underlying t = some (.func ps rs vd)) :
    (Op.equalIn (d + 1) t (.func fn fi ca) .nilFunc).run P w = .ok false w := by
  simp [Op.equalIn, run_underlying h]
theorem run_eql_func_nil {P : Program} (w : World) (t : TypeId) {ps rs : Array TypeId} {vd : Bool} (fn : Fn) (fi ca : Array Value) (h : P.underlying t = some (.func ps rs vd)) :
    (binOp .eql t (.func fn fi ca) .nilFunc).run P w = .ok (.bool false) w := by
  simp only [binOp]
  simp [Op.equal, Op.maxDepth, run_equalIn_func_nil w 9999 t fn fi ca h]
end Go.Proofs.Ytcaeechlpadboaa
