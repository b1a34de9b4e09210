/-
  Lemmas of our own that serve every law of this seat: from a walk that ends in 'returned true' and 'Below' to the row's post. No program in sight.
-/
import Derived.WalkKit
import Derived.ProofKit
import Derived.OpenShut
import Derived.Below
import Derived.Carry
import Derived.ChangeSame
import Derived.Maps.AppendAt
import Derived.Deep.Draws
import Derived.Deep.AppendLies
import Derived.Deep.Slices
import Derived.Laws.AppendOwnNone
namespace Go.Proofs.YtnljdcghaecdaaaGreatDoor
open Go.ChangeShapes Go.WideShapes Go.ChangeAt Go.RowKit

theorem hide {p : Prop} (h : p) : Hid p := h

section
variable {H : Type} {enc : TypeId × Value → H} {P : Program}

theorem trodAll_below (hl : laidOutB P = true) {W W' : World} (hb : Below W.heap.size W W') :
    ∀ (ts : List TypeId) (vs : List Value) (ds : List (DataW H)) (ps : List MemPlace),
      (∀ t ∈ ts, P.readableRec t = true ∧ t < P.types.size) → (∀ x ∈ ps, x.block < W.heap.size) →
      DataW.TrodAll enc P W 0 (fun _ => true) true ts vs ds ps →
      DataW.TrodAll enc P W' 0 (fun b => decide (b < W.heap.size)) true ts vs ds ps
  | [], vs, ds, ps, _, _, h => by
    cases vs <;> cases ds <;> first | exact h | exact h.elim
  | t :: ts, [], ds, ps, _, _, h => by cases ds <;> exact h.elim
  | t :: ts, v :: vs, [], ps, _, _, h => h.elim
  | t :: ts, v :: vs, d :: ds, ps, hr, hlt, h => by
    obtain ⟨p, q, hd, hrest, rfl⟩ := h
    have h1 := hr t (List.mem_cons_self ..)
    exact ⟨p, q, Below.trod hl h1.1 h1.2 hd hb (fun x hx => hlt x (List.mem_append.2 (.inl hx))),
      trodAll_below hl hb ts vs ds q (fun t' ht' => hr t' (List.mem_cons_of_mem _ ht')) (fun x hx => hlt x (List.mem_append.2 (.inr hx))) hrest, rfl⟩

/-- The row's post of a law: true, and every argument reads as it did. -/
theorem law_post {f : Func} {s : ChangeSpec} {W W' : World} {args : Array Value} {ds gs : List (DataW H)} {before : List MemPlace} {tb : TypeId}
    (hl : laidOutB P = true) (hr : ∀ t ∈ f.params.toList, P.readableRec t = true ∧ t < P.types.size) (hvars : s.vars = [])
    (hfn : s.fn H ds = { results := [.lit (.bool true)], args := ds }) (hrt : f.resultTypes = #[tb]) (hu : P.underlying tb = some .bool)
    (hW : DataW.Whole enc P f.params.toList s.vars false W args.toList ds gs before) (hb : Below W.heap.size W W') :
    s.post enc P f false true false false W args (.bool true) W' := by
  have hW' := hW
  obtain ⟨p, q, hA, hV, hps, _, _⟩ := hW
  rw [hvars] at hV
  have hg : gs = [] ∧ q = [] := by
    cases gs with
    | nil => exact ⟨rfl, hV⟩
    | cons _ _ => exact hV.elim
  obtain ⟨rfl, rfl⟩ := hg
  have hlt : ∀ x ∈ p, x.block < W.heap.size := fun x hx => hW'.lt x (by rw [hps]; exact List.mem_append.2 (.inl hx))
  refine ⟨ds, [], before, [], p, [], hW', ?_, ?_, ?_, hb.frame _, fun h => by cases h⟩
  · rw [List.append_nil, hfn, hrt]
    exact trodAll_cons_mk (shut_bool hu _) trodAll_mk0
  · rw [List.append_nil, hfn]
    exact trodAll_below hl hb _ _ _ _ hr hlt hA
  · rw [List.append_nil, hfn, hvars]
    rfl
end

/-- Of what was there only the blocks of S may have turned. -/
structure Turn (S : Nat → Prop) (w w' : World) : Prop where
  os : w'.os = w.os
  tape : w'.tape = w.tape
  output : w'.output = w.output
  size : w.heap.size ≤ w'.heap.size
  block : ∀ k, k < w.heap.size → ¬ S k → w'.heap[k]? = w.heap[k]?

section
variable {S T : Nat → Prop} {a w w' : World}
theorem Turn.refl (S : Nat → Prop) (w : World) : Turn S w w := ⟨rfl, rfl, rfl, Nat.le_refl _, fun _ _ _ => rfl⟩
theorem Turn.mono (h : Turn S w w') (hs : ∀ k, k < w.heap.size → S k → T k) : Turn T w w' :=
  ⟨h.os, h.tape, h.output, h.size, fun k hk hn => h.block k hk (fun hS => hn (hs k hk hS))⟩
/-- What a second step turns must be new, or let. -/
theorem Turn.step (h : Turn S a w) (h' : Turn T w w') (hs : ∀ k, k < a.heap.size → T k → S k) : Turn S a w' :=
  ⟨h'.os.trans h.os, h'.tape.trans h.tape, h'.output.trans h.output, Nat.le_trans h.size h'.size,
    fun k hk hn => (h'.block k (Nat.lt_of_lt_of_le hk h.size) (fun hT => hn (hs k hk hT))).trans (h.block k hk hn)⟩
theorem Turn.trans (h : Turn S a w) (h' : Turn S w w') : Turn S a w' := h.step h' (fun _ _ x => x)
theorem Turn.drew (h : Turn S a w) : Turn S a w.drew := ⟨h.os, h.tape, h.output, h.size, h.block⟩
theorem Turn.drewN (h : Turn S a w) (n : Nat) : Turn S a (w.drewN n) := ⟨h.os, h.tape, h.output, h.size, h.block⟩
theorem Turn.alloc (h : Turn S a w) (o : Obj) : Turn S a (w.alloc o) :=
  ⟨h.os, h.tape, h.output, Nat.le_trans h.size (by simp), fun k hk hn => (Below.heap_alloc w o k (Nat.lt_of_lt_of_le hk h.size)).trans (h.block k hk hn)⟩
theorem Turn.setCell (h : Turn S a w) {p : Addr} (hp : p.block < a.heap.size → S p.block) (u : Value) : Turn S a (w.setCell p u) :=
  ⟨h.os, h.tape, h.output, by simpa [World.setCell] using h.size, fun k hk hn => (Below.heap_setCell w p u k (fun e => hn (e ▸ hp (e ▸ hk)))).trans (h.block k hk hn)⟩
theorem Turn.grown (h : Turn S a w) {row : Option Nat} (hg : w.grownBy w' row) (hr : ∀ k, k < a.heap.size → row = some k → S k) : Turn S a w' :=
  ⟨hg.os.trans h.os, hg.tape.trans h.tape, hg.output.trans h.output, Nat.le_trans h.size hg.size,
    fun k hk hn => (hg.block k (Nat.lt_of_lt_of_le hk h.size) (fun e => hn (hr k hk e.symm))).trans (h.block k hk hn)⟩
theorem Turn.of_below (h : Below w.heap.size w w') : Turn S w w' := ⟨h.os, h.tape, h.output, h.size, fun k hk _ => h.block k hk⟩
theorem Turn.below {B : Nat} (h : Turn S w w') (hB : B ≤ w.heap.size) (hs : ∀ k, S k → B ≤ k) : Below B w w' :=
  ⟨h.os, h.tape, h.output, h.size, fun k hk => h.block k (by omega) (fun hS => by have := hs k hS; omega)⟩
theorem Turn.cell (h : Turn S w w') {p : Addr} (hp : p.block < w.heap.size) (hn : ¬ S p.block) : w'.cell? p = w.cell? p := World.cell?_of_block (h.block p.block hp hn)
theorem Turn.obj (h : Turn S w w') {k : Nat} {o : Obj} (ho : w.heap[k]? = some o) (hn : ¬ S k) : w'.heap[k]? = some o :=
  (h.block k (Array.getElem?_eq_some_iff.1 ho).1 hn).trans ho
theorem ownsRow_turn {base : Nat} {e : TypeId} {size : Nat} {v : Value} {n : Nat} {xs : List Value} (h : w.ownsRow base e size v n xs) (ht : Turn S w w') (hne : ∀ g, v.ownBlock = some g → ¬ S g) : w'.ownsRow base e size v n xs := by
  obtain ⟨h1, h2⟩ := h
  refine ⟨h1, ?_⟩
  rcases h2 with h2 | ⟨g, cap, cur, hv, hg, hh, r⟩
  · exact .inl h2
  · exact .inr ⟨g, cap, cur, hv, hg, ht.obj hh (hne g (by rw [hv]; rfl)), r⟩
theorem ownsRow_base {base : Nat} {e : TypeId} {size : Nat} {v : Value} {n : Nat} {xs : List Value} (h : w.ownsRow base e size v n xs) {g : Nat} (hv : v.ownBlock = some g) : base ≤ g ∧ g < w.heap.size := by
  rcases h.2 with ⟨rfl, _⟩ | ⟨g', cap, cur, rfl, hb, hh, _⟩
  · cases hv
  · obtain rfl : g' = g := by simpa [Value.ownBlock] using hv
    exact ⟨hb, (Array.getElem?_eq_some_iff.1 hh).1⟩
/-- A row of one element type and a block of another make are not the same block. -/
theorem ownsRow_other {base : Nat} {e : TypeId} {size : Nat} {v : Value} {n : Nat} {xs : List Value} (h : w.ownsRow base e size v n xs) {j : Nat} {o : Obj} (ho : w.heap[j]? = some o) (hno : ∀ cur fz, o ≠ .cells cur e fz) : v.ownBlock ≠ some j := by
  intro hv
  rcases h.2 with ⟨rfl, _⟩ | ⟨g, cap, cur, rfl, _, hh, _⟩
  · cases hv
  · obtain rfl : g = j := by simpa [Value.ownBlock] using hv
    rw [hh] at ho
    exact hno _ _ (Option.some.inj ho).symm
end

theorem below_drewN {B : Nat} {a w : World} (h : Below B a w) (n : Nat) : Below B a (w.drewN n) := ⟨h.os, h.tape, h.output, h.size, h.block⟩

/-- The row's block is the old one, or one that was not there. -/
def Newer (w : World) (v v' : Value) : Prop := ∀ g, v'.ownBlock = some g → v.ownBlock = some g ∨ w.heap.size ≤ g

theorem cells_new (w : World) (ys : List Value) (t : TypeId) : ∀ j u, ys[j]? = some u → (w.alloc (.cells ys.toArray t)).cell? ((⟨w.heap.size, 0, none⟩ : Addr).add j) = some u := by
  intro j u hj
  have hb : (w.alloc (.cells ys.toArray t)).heap[w.heap.size]? = some (.cells ys.toArray t) := heap_alloc_new w _
  have e : ((⟨w.heap.size, 0, none⟩ : Addr).add j) = ⟨w.heap.size, j, none⟩ := by
    unfold Addr.add
    by_cases h : j = 0 <;> simp [h]
  rw [e]
  show (match (w.alloc (.cells ys.toArray t)).heap[w.heap.size]? with | some (.cells c _ _) => if (none : Option Nat).isSome then Option.none else c[j]? | _ => Option.none) = some u
  rw [hb]
  simpa using hj

section
variable {P : Program} {w : World}
/-- 'append(s, x)' onto a row of the call's own: the new element's cells lie in a block just laid. -/
theorem wpList_append1 {ops : Array Oper} {rest : List Oper} {o : Oper} {a : Act} {Q : Exit → Act → World → Prop} (hgd : o.guard = none) (s x : Operand) (t : TypeId)
    (ho : o.op = .call { callee := .builtin .append, args := #[s, x], argTypes := #[t, t] })
    (base : Nat) (e : TypeId) (i : TypeInfo) (z : Value) (size bytes : Nat) (ht : P.underlying t = some (.slice e)) (hi : P.info? e = some i) (hz : i.zero = some z)
    (hsize : i.size = size) (hby : i.bytes = bytes) (hzs : z.cells.size = size) (hsz : 0 < size)
    (v : Value) (n : Nat) (xs : List Value) (hs : a.eval s = v) (hown : w.ownsRow base e size v n xs)
    (ys : List Value) (hx : a.eval x = .slice (some ⟨w.heap.size, 0, none⟩) 1 1) (hl : ys.length = size) (h1 : ∀ u ∈ ys, u.oneCell' = true)
    (h63 : n + 1 ≤ 1000000) (hb2 : bytes ≤ 1000) (hbase : base ≤ w.heap.size)
    (h : ∀ v' w', w'.ownsRow base e size v' (n + 1) (xs ++ ys) → Turn (fun k => v.ownBlock = some k) w w' → Newer w v v' → wpList P ops Q rest (a.put o.dst v') w') :
    wpList P ops Q (o :: rest) a (w.alloc (.cells ys.toArray e)) := by
  refine wpList_append_own_at _ hgd s x t ho base e i z size bytes ht hi hz hsize hby hzs hsz v n xs hs (hown.alloc _) ⟨w.heap.size, 0, none⟩ 1 1 ys hx (by omega) (cells_new w ys e) h1 (by unfold maxLen; omega)
    (Nat.le_trans (Nat.mul_le_mul h63 hb2) (by omega)) (by simp; omega) ?_
  intro v' w' ho' hg' _ hat
  refine h v' w' ho' ?_ ?_
  · exact ((Turn.refl _ w).alloc _).grown hg' (fun k _ hk => hk)
  · intro g hg
    rcases hat with h2 | h2
    · exact .inl (h2 ▸ hg)
    · rw [h2] at hg
      simp at hg
      exact .inr (by omega)
end

/-- A slice value that reads as n elements of that many cells each, xs in all. -/
def Rd (w : World) (size : Nat) (v : Value) (n : Nat) (xs : List Value) : Prop :=
  xs.length = n * size ∧ ∃ A c, v = .slice A n c ∧ (A = none → n = 0 ∧ c = 0) ∧ (0 < n → ∃ b o, A = some ⟨b, o, none⟩ ∧ b < w.heap.size ∧ ∀ j u, xs[j]? = some u → w.cell? ⟨b, o + j, none⟩ = some u)
section
variable {w w' : World} {size n : Nat} {v : Value} {xs : List Value}
theorem add_mk (b o j : Nat) : (⟨b, o, none⟩ : Addr).add j = ⟨b, o + j, none⟩ := by
  unfold Addr.add
  by_cases h : j = 0 <;> simp [h]
theorem Rd.of_own {base : Nat} {e : TypeId} (h : w.ownsRow base e size v n xs) : Rd w size v n xs := by
  have hx := h
  refine ⟨h.1, ?_⟩
  rcases h.2 with ⟨rfl, rfl⟩ | ⟨g, cap, cur, rfl, hb, hh, _⟩
  · exact ⟨none, 0, rfl, fun _ => ⟨rfl, rfl⟩, fun h => by omega⟩
  · exact ⟨_, _, rfl, (fun h => by cases h), fun _ => ⟨g, 0, rfl, (Array.getElem?_eq_some_iff.1 hh).1, fun j u hj => by simpa [add_mk] using hx.cells (g := g) rfl j u hj⟩⟩
theorem Rd.turn {S : Nat → Prop} (h : Rd w size v n xs) (t : Turn S w w') (hn : ∀ g, g < w.heap.size → v.ownBlock = some g → ¬ S g) : Rd w' size v n xs := by
  obtain ⟨hl, A, c, rfl, hnil, hc⟩ := h
  refine ⟨hl, A, c, rfl, hnil, fun h0 => ?_⟩
  obtain ⟨b, o, rfl, hb, hcell⟩ := hc h0
  exact ⟨b, o, rfl, Nat.lt_of_lt_of_le hb t.size, fun j u hj => (t.cell (p := ⟨b, o + j, none⟩) hb (hn b hb rfl)).trans (hcell j u hj)⟩
theorem Rd.drewN (h : Rd w size v n xs) (k : Nat) : Rd (w.drewN k) size v n xs := h
theorem Rd.below (h : Rd w size v n xs) (t : Below w.heap.size w w') : Rd w' size v n xs :=
  h.turn (S := fun _ => False) ⟨t.os, t.tape, t.output, t.size, fun k hk _ => t.block k hk⟩ (fun _ _ _ h => h)
end

theorem flat_length {α : Type} {m : Nat} {f : α → List Value} (hf : ∀ x, (f x).length = m) : ∀ l : List α, (l.flatMap f).length = l.length * m
  | [] => by simp
  | x :: l => by simp [flat_length hf l, hf x, Nat.add_mul, Nat.add_comm]
theorem flat_at {α : Type} {m : Nat} {f : α → List Value} (hf : ∀ x, (f x).length = m) : ∀ (l : List α) (k j : Nat) (hk : k < l.length), j < m → (l.flatMap f)[k * m + j]? = (f l[k])[j]?
  | [], _, _, hk, _ => by simp at hk
  | x :: l, 0, j, _, hj => by simp [List.getElem?_append, hf x, hj]
  | x :: l, k + 1, j, hk, hj => by
    have := flat_at hf l k j (by simpa using hk) hj
    simp only [List.flatMap_cons, List.getElem_cons_succ]
    rw [← this, List.getElem?_append_right (by rw [hf x, Nat.add_mul]; omega), hf x]
    congr 1
    rw [Nat.add_mul]
    omega

section
variable {H : Type} {enc : TypeId × Value → H} {P : Program}
/-- An argument that is a slice, opened to the cells of its elements. -/
theorem open_rd {α : Type} [Inhabited α] {r : Reach} {base : Nat} {w : World} {t e : TypeId} {C : Nat} {v : Value} {d : DataW H} {ps : List MemPlace} {f : α → List Value} {q : α → Prop} (ht : P.underlying t = some (.slice e)) (hC : P.cellsOf e = C) (hC0 : 0 < C) (hf : ∀ x, (f x).length = C)
    (hel : ∀ n cs y, DataW.trod enc P w 0 (fun _ => true) true n e cs = some y → ∃ x, cs = f x ∧ q x)
    (hv : Value.okWide P w r base t v) (h : DataW.Trod enc P w 0 (fun _ => true) true t v d ps) :
    ∃ l : List α, Rd w C v l.length (l.flatMap f) ∧ l.length ≤ maxLen ∧ ∀ x ∈ l, q x := by
  obtain ⟨a0, len, cap, rfl⟩ := okWide_slice ht hv
  obtain ⟨fuel, hf0⟩ := h
  rcases Go.Deep.open_slice ht hf0 with ⟨hcs, _⟩ | ⟨a, len', cap', m, n, D, Pl, hcs, _, hl, hm, hmm, _, hx⟩
  · simp [Value.cells] at hcs
    obtain ⟨rfl, rfl, rfl⟩ := hcs
    exact ⟨[], ⟨by simp, none, 0, rfl, fun _ => ⟨rfl, rfl⟩, fun h => by simp at h⟩, by simp, by simp⟩
  · simp [Value.cells] at hcs
    obtain ⟨rfl, rfl, rfl⟩ := hcs
    simp at hmm
    subst hmm
    rw [hC] at hx
    obtain ⟨X, hX⟩ := Go.Deep.choose_lt (α := α) (n := len) (p := fun i x => w.cells? 0 (a.add (i * C)) C = some (f x) ∧ q x) (fun i hi => by
      obtain ⟨cs', h1, h2⟩ := hx i (by omega)
      obtain ⟨x, rfl, hq⟩ := hel _ _ _ h2
      exact ⟨x, h1, hq⟩)
    refine ⟨(List.range len).map X, ?_, by simp; omega, ?_⟩
    · refine ⟨by rw [flat_length hf], some a, m, by simp, (fun h => by cases h), fun h0 => ?_⟩
      simp only [List.length_map, List.length_range] at h0
      obtain ⟨_, _, hc0⟩ := World.cells?_some (hX 0 h0).1
      have h00 := hc0 0 hC0
      obtain ⟨b, o, spot⟩ := a
      have hl0 : 0 < (f (X 0)).length := by rw [hf]; exact hC0
      have hspot : spot = none := by
        have h1 : w.cell? ((Addr.add ⟨b, o, spot⟩ (0 * C)).add 0) = some (f (X 0))[0] := h00.trans (List.getElem?_eq_getElem hl0)
        simpa [Addr.add] using World.cell?_spot h1
      subst hspot
      refine ⟨b, o, rfl, ?_, fun j u hj => ?_⟩
      · have h1 : w.cell? ⟨b, o, none⟩ = some (f (X 0))[0] := by
          have := h00.trans (List.getElem?_eq_getElem hl0)
          simpa [add_mk] using this
        exact World.block_lt_of_cell? w _ h1
      · have hjl : j < len * C := by
          have := (List.getElem?_eq_some_iff.1 hj).1
          rw [flat_length hf] at this
          simpa using this
        have hk : j / C < len := Nat.div_lt_of_lt_mul (by rw [Nat.mul_comm]; exact hjl)
        have hj' : j = j / C * C + j % C := by rw [Nat.mul_comm]; exact (Nat.div_add_mod j C).symm
        have hjm : j % C < C := Nat.mod_lt _ hC0
        obtain ⟨_, _, hc⟩ := World.cells?_some (hX (j / C) hk).1
        have h1 := hc (j % C) hjm
        have h2 := flat_at hf ((List.range len).map X) (j / C) (j % C) (by simpa using hk) hjm
        rw [← hj'] at h2
        rw [hj] at h2
        rw [add_mk, add_mk] at h1
        rw [show o + j = o + j / C * C + j % C by omega, h1]
        simpa using h2.symm
    · intro x hx'
      simp only [List.mem_map, List.mem_range] at hx'
      obtain ⟨i, hi, rfl⟩ := hx'
      exact (hX i hi).2
end

section
variable {P : Program} {w : World}
theorem Rd.shape {size n : Nat} {v : Value} {xs : List Value} (h : Rd w size v n xs) : ∃ A c, v = .slice A n c := by
  obtain ⟨_, A, c, rfl, _⟩ := h
  exact ⟨A, c, rfl⟩
theorem Rd.cells {size n : Nat} {A : Option Addr} {c : Nat} {xs : List Value} (h : Rd w size (.slice A n c) n xs) (h0 : 0 < n) :
    ∃ b o, A = some ⟨b, o, none⟩ ∧ b < w.heap.size ∧ ∀ j u, xs[j]? = some u → w.cell? ⟨b, o + j, none⟩ = some u := by
  obtain ⟨_, A', c', e, _, hc⟩ := h
  injection e with e1 e2 e3
  subst e1
  exact hc h0
/-- 'append(s, x...)' onto a row of the call's own, from whatever slice that reads. -/
theorem wpList_appendRd {ops : Array Oper} {rest : List Oper} {o : Oper} {a : Act} {Q : Exit → Act → World → Prop} (hgd : o.guard = none) (s x : Operand) (t : TypeId)
    (ho : o.op = .call { callee := .builtin .append, args := #[s, x], argTypes := #[t, t] })
    (base : Nat) (e : TypeId) (i : TypeInfo) (z : Value) (size bytes : Nat) (ht : P.underlying t = some (.slice e)) (hi : P.info? e = some i) (hz : i.zero = some z)
    (hsize : i.size = size) (hby : i.bytes = bytes) (hzs : z.cells.size = size) (hsz : 0 < size)
    (v : Value) (n : Nat) (xs : List Value) (hs : a.eval s = v) (hown : w.ownsRow base e size v n xs)
    (vx : Value) (m : Nat) (news : List Value) (hx : a.eval x = vx) (hr : Rd w size vx m news) (h1 : ∀ u ∈ news, u.oneCell' = true)
    (h63 : n + m ≤ 1000000) (hb2 : bytes ≤ 1000) (hbase : base ≤ w.heap.size)
    (h : ∀ v' w', w'.ownsRow base e size v' (n + m) (xs ++ news) → Turn (fun k => v.ownBlock = some k) w w' → Newer w v v' → wpList P ops Q rest (a.put o.dst v') w') :
    wpList P ops Q (o :: rest) a w := by
  obtain ⟨hl, A, c, rfl, hnil, hc⟩ := hr
  cases A with
  | none =>
    obtain ⟨rfl, rfl⟩ := hnil rfl
    have : news = [] := List.eq_nil_of_length_eq_zero (by simpa using hl)
    subst this
    exact wpList_append_own_none hgd s x t ho base e i size ht hi v n xs hs hown hx (h v w (by simpa using hown) (Turn.refl _ _) (fun g hg => .inl hg))
  | some ad =>
    refine wpList_append_own_at _ hgd s x t ho base e i z size bytes ht hi hz hsize hby hzs hsz v n xs hs hown ad m c news hx hl ?_ h1 (by unfold maxLen; omega)
      (Nat.le_trans (Nat.mul_le_mul h63 hb2) (by omega)) hbase ?_
    · intro j u hj
      have hm : 0 < m := by
        have := (List.getElem?_eq_some_iff.1 hj).1
        rw [hl] at this
        exact Nat.pos_of_ne_zero (fun e => by subst e; simp at this)
      obtain ⟨b, o', hA, _, hcell⟩ := hc hm
      injection hA with hA
      subst hA
      rw [add_mk]
      exact hcell j u hj
    · intro v' w' ho' hg' _ hat
      refine h v' w' ho' ((Turn.refl _ w).grown hg' (fun k _ hk => hk)) ?_
      intro g hg
      rcases hat with h2 | h2
      · exact .inl (h2 ▸ hg)
      · rw [h2] at hg
        simp at hg
        exact .inr (by omega)
end
end Go.Proofs.YtnljdcghaecdaaaGreatDoor
