/-
  Schemas, types, values in memory: only read.
-/
import Derived.Test.YtnljdcghaecdaaaGreatDoorLet
namespace Go.Proofs.YtnljdcghaecdaaaGreatDoor
open Go.RowKit Go.Lib

structure SortD where
  kind : Int
  name : ByteArray
abbrev sortc (x : SortD) : List Value := [.int .u8 x.kind, .string x.name]
structure FieldD where
  name : ByteArray
  ts : List SortD
  tv : Value
abbrev fieldc (x : FieldD) : List Value := [.string x.name, x.tv]
structure RecD where
  name : ByteArray
  choice : Bool
  fs : List FieldD
  fv : Value
abbrev recc (x : RecD) : List Value := [.string x.name, .bool x.choice, x.fv]
structure MethD where
  name : ByteArray
  arg : ByteArray
  result : Int
  effect : ByteArray
  undo : ByteArray
abbrev methc (x : MethD) : List Value := [.string x.name, .string x.arg, .int .u8 x.result, .string x.effect, .string x.undo]
structure ServD where
  name : ByteArray
  ms : List MethD
  mv : Value
abbrev servc (x : ServD) : List Value := [.string x.name, x.mv]
structure StepD where
  srv : ByteArray
  mth : ByteArray
  node : Int
abbrev stepc (x : StepD) : List Value := [.string x.srv, .string x.mth, .int .i64 x.node]
structure SagaD where
  name : ByteArray
  arg : ByteArray
  ss : List StepD
  sv : Value
abbrev sagac (x : SagaD) : List Value := [.string x.name, .string x.arg, x.sv]
structure SchD where
  name : ByteArray
  rs : List RecD
  rv : Value
  vs : List ServD
  vv : Value
  gs : List SagaD
  gv : Value
abbrev schc (s : SchD) : List Value := [.string s.name, s.rv, s.vv, s.gv]
abbrev schv (s : SchD) : Value := .agg #[.string s.name, s.rv, s.vv, s.gv]
structure NodeD where
  kind : Int
  num : Int
  text : ByteArray
  kids : Int
abbrev nodec (x : NodeD) : List Value := [.int .u8 x.kind, .int .i64 x.num, .string x.text, .int .i64 x.kids]
section
variable {w W : World}
/-- Not longer than its room. -/
def Capd (v : Value) : Prop := ∃ A n c, v = .slice A n c ∧ n ≤ c
theorem Capd.le {A : Option Addr} {n c : Nat} (h : Capd (.slice A n c)) : n ≤ c := by
  obtain ⟨A', n', c', e, h⟩ := h
  injection e with _ e2 e3
  omega
theorem Capd.own {base : Nat} {e : TypeId} {size n : Nat} {xs : List Value} {v : Value} (h : w.ownsRow base e size v n xs) : Capd v := by
  rcases h.2 with ⟨rfl, _⟩ | ⟨g, cap, cur, rfl, _, _, hnc, _⟩
  · exact ⟨none, 0, 0, rfl, Nat.le_refl _⟩
  · exact ⟨_, _, _, rfl, hnc⟩
def SortsAt (w : World) (v : Value) (ts : List SortD) : Prop := Rd w 2 v ts.length (ts.flatMap sortc) ∧ Capd v
def FieldsAt (w : World) (v : Value) (fs : List FieldD) : Prop := Rd w 2 v fs.length (fs.flatMap fieldc) ∧ ∀ f ∈ fs, SortsAt w f.tv f.ts
def RecsAt (w : World) (v : Value) (rs : List RecD) : Prop := Rd w 3 v rs.length (rs.flatMap recc) ∧ ∀ r ∈ rs, FieldsAt w r.fv r.fs
def MethsAt (w : World) (v : Value) (ms : List MethD) : Prop := Rd w 5 v ms.length (ms.flatMap methc)
def ServsAt (w : World) (v : Value) (vs : List ServD) : Prop := Rd w 2 v vs.length (vs.flatMap servc) ∧ ∀ x ∈ vs, MethsAt w x.mv x.ms
def StepsAt (w : World) (v : Value) (ss : List StepD) : Prop := Rd w 3 v ss.length (ss.flatMap stepc)
def SagasAt (w : World) (v : Value) (gs : List SagaD) : Prop := Rd w 3 v gs.length (gs.flatMap sagac) ∧ ∀ x ∈ gs, StepsAt w x.sv x.ss
def NodesAt (w : World) (v : Value) (ns : List NodeD) : Prop := Rd w 4 v ns.length (ns.flatMap nodec)
structure SchAt (w : World) (s : SchD) : Prop where
  rs : RecsAt w s.rv s.rs
  vs : ServsAt w s.vv s.vs
  gs : SagasAt w s.gv s.gs
theorem rd_on {k n : Nat} {v : Value} {xs : List Value} (h : Rd w k v n xs) (t : Turn (fun _ => False) w W) : Rd W k v n xs := h.turn t (fun _ _ _ h => h)
theorem SortsAt.on {v : Value} {ts : List SortD} (h : SortsAt w v ts) (t : Turn (fun _ => False) w W) : SortsAt W v ts := ⟨rd_on h.1 t, h.2⟩
theorem FieldsAt.on {v : Value} {fs : List FieldD} (h : FieldsAt w v fs) (t : Turn (fun _ => False) w W) : FieldsAt W v fs := ⟨rd_on h.1 t, fun f hf => (h.2 f hf).on t⟩
theorem RecsAt.on {v : Value} {rs : List RecD} (h : RecsAt w v rs) (t : Turn (fun _ => False) w W) : RecsAt W v rs := ⟨rd_on h.1 t, fun f hf => (h.2 f hf).on t⟩
theorem MethsAt.on {v : Value} {ms : List MethD} (h : MethsAt w v ms) (t : Turn (fun _ => False) w W) : MethsAt W v ms := rd_on h t
theorem ServsAt.on {v : Value} {vs : List ServD} (h : ServsAt w v vs) (t : Turn (fun _ => False) w W) : ServsAt W v vs := ⟨rd_on h.1 t, fun f hf => (h.2 f hf).on t⟩
theorem StepsAt.on {v : Value} {ss : List StepD} (h : StepsAt w v ss) (t : Turn (fun _ => False) w W) : StepsAt W v ss := rd_on h t
theorem SagasAt.on {v : Value} {gs : List SagaD} (h : SagasAt w v gs) (t : Turn (fun _ => False) w W) : SagasAt W v gs := ⟨rd_on h.1 t, fun f hf => (h.2 f hf).on t⟩
theorem NodesAt.on {v : Value} {ns : List NodeD} (h : NodesAt w v ns) (t : Turn (fun _ => False) w W) : NodesAt W v ns := rd_on h t
theorem SchAt.on {s : SchD} (h : SchAt w s) (t : Turn (fun _ => False) w W) : SchAt W s := ⟨h.rs.on t, h.vs.on t, h.gs.on t⟩
/-- The cells of an element. -/
theorem rd_at {α : Type} {m : Nat} {f : α → List Value} (hf : ∀ x, (f x).length = m) (xs : List α) {A : Option Addr} {n c : Nat} (h : Rd w m (.slice A n c) xs.length (xs.flatMap f)) (h0 : 0 < xs.length) :
    ∃ b o, A = some ⟨b, o, none⟩ ∧ b < w.heap.size ∧ n = xs.length ∧ ∀ i (hi : i < xs.length) j, j < m → w.cell? ⟨b, o + i * m + j, none⟩ = (f xs[i])[j]? := by
  obtain ⟨A', c', e⟩ := h.shape
  injection e with e1 e2 e3
  subst e1 e2 e3
  obtain ⟨b, o, hA, hb, hc⟩ := h.cells h0
  refine ⟨b, o, hA, hb, rfl, fun i hi j hj => ?_⟩
  have hl : j < (f xs[i]).length := by rw [hf]; exact hj
  have h1 := hc (i * m + j) ((f xs[i])[j]) (by rw [flat_at hf xs i j hi hj, List.getElem?_eq_getElem hl])
  rw [← Nat.add_assoc] at h1
  rw [h1, List.getElem?_eq_getElem hl]
end
section
variable {w : World} {A : Option Addr} {n c : Nat}
theorem sort_at (xs : List SortD) (h : SortsAt w (.slice A n c) xs) (h0 : 0 < xs.length) : ∃ b o, A = some ⟨b, o, none⟩ ∧ b < w.heap.size ∧ n = xs.length ∧ ∀ i (hi : i < xs.length), w.cell? ⟨b, o + i * 2, none⟩ = some (.int .u8 (xs[i]).kind) ∧ w.cell? ⟨b, o + i * 2 + 1, none⟩ = some (.string (xs[i]).name) := by
  obtain ⟨b, o, hA, hb, hn, hc⟩ := rd_at (m := 2) (f := sortc) (fun _ => rfl) xs h.1 h0
  exact ⟨b, o, hA, hb, hn, fun i hi => ⟨hc i hi 0 (by omega), hc i hi 1 (by omega)⟩⟩
theorem field_at (xs : List FieldD) (h : FieldsAt w (.slice A n c) xs) (h0 : 0 < xs.length) : ∃ b o, A = some ⟨b, o, none⟩ ∧ b < w.heap.size ∧ n = xs.length ∧ ∀ i (hi : i < xs.length), w.cell? ⟨b, o + i * 2, none⟩ = some (.string (xs[i]).name) ∧ w.cell? ⟨b, o + i * 2 + 1, none⟩ = some (xs[i]).tv := by
  obtain ⟨b, o, hA, hb, hn, hc⟩ := rd_at (m := 2) (f := fieldc) (fun _ => rfl) xs h.1 h0
  exact ⟨b, o, hA, hb, hn, fun i hi => ⟨hc i hi 0 (by omega), hc i hi 1 (by omega)⟩⟩
theorem rec_at (xs : List RecD) (h : RecsAt w (.slice A n c) xs) (h0 : 0 < xs.length) : ∃ b o, A = some ⟨b, o, none⟩ ∧ b < w.heap.size ∧ n = xs.length ∧ ∀ i (hi : i < xs.length), w.cell? ⟨b, o + i * 3, none⟩ = some (.string (xs[i]).name) ∧ w.cell? ⟨b, o + i * 3 + 1, none⟩ = some (.bool (xs[i]).choice) ∧ w.cell? ⟨b, o + i * 3 + 2, none⟩ = some (xs[i]).fv := by
  obtain ⟨b, o, hA, hb, hn, hc⟩ := rd_at (m := 3) (f := recc) (fun _ => rfl) xs h.1 h0
  exact ⟨b, o, hA, hb, hn, fun i hi => ⟨hc i hi 0 (by omega), hc i hi 1 (by omega), hc i hi 2 (by omega)⟩⟩
theorem meth_at (xs : List MethD) (h : MethsAt w (.slice A n c) xs) (h0 : 0 < xs.length) : ∃ b o, A = some ⟨b, o, none⟩ ∧ b < w.heap.size ∧ n = xs.length ∧ ∀ i (hi : i < xs.length), w.cell? ⟨b, o + i * 5, none⟩ = some (.string (xs[i]).name) ∧ w.cell? ⟨b, o + i * 5 + 1, none⟩ = some (.string (xs[i]).arg) ∧ w.cell? ⟨b, o + i * 5 + 2, none⟩ = some (.int .u8 (xs[i]).result) ∧ w.cell? ⟨b, o + i * 5 + 3, none⟩ = some (.string (xs[i]).effect) ∧ w.cell? ⟨b, o + i * 5 + 4, none⟩ = some (.string (xs[i]).undo) := by
  obtain ⟨b, o, hA, hb, hn, hc⟩ := rd_at (m := 5) (f := methc) (fun _ => rfl) xs h h0
  exact ⟨b, o, hA, hb, hn, fun i hi => ⟨hc i hi 0 (by omega), hc i hi 1 (by omega), hc i hi 2 (by omega), hc i hi 3 (by omega), hc i hi 4 (by omega)⟩⟩
theorem serv_at (xs : List ServD) (h : ServsAt w (.slice A n c) xs) (h0 : 0 < xs.length) : ∃ b o, A = some ⟨b, o, none⟩ ∧ b < w.heap.size ∧ n = xs.length ∧ ∀ i (hi : i < xs.length), w.cell? ⟨b, o + i * 2, none⟩ = some (.string (xs[i]).name) ∧ w.cell? ⟨b, o + i * 2 + 1, none⟩ = some (xs[i]).mv := by
  obtain ⟨b, o, hA, hb, hn, hc⟩ := rd_at (m := 2) (f := servc) (fun _ => rfl) xs h.1 h0
  exact ⟨b, o, hA, hb, hn, fun i hi => ⟨hc i hi 0 (by omega), hc i hi 1 (by omega)⟩⟩
theorem step_at (xs : List StepD) (h : StepsAt w (.slice A n c) xs) (h0 : 0 < xs.length) : ∃ b o, A = some ⟨b, o, none⟩ ∧ b < w.heap.size ∧ n = xs.length ∧ ∀ i (hi : i < xs.length), w.cell? ⟨b, o + i * 3, none⟩ = some (.string (xs[i]).srv) ∧ w.cell? ⟨b, o + i * 3 + 1, none⟩ = some (.string (xs[i]).mth) ∧ w.cell? ⟨b, o + i * 3 + 2, none⟩ = some (.int .i64 (xs[i]).node) := by
  obtain ⟨b, o, hA, hb, hn, hc⟩ := rd_at (m := 3) (f := stepc) (fun _ => rfl) xs h h0
  exact ⟨b, o, hA, hb, hn, fun i hi => ⟨hc i hi 0 (by omega), hc i hi 1 (by omega), hc i hi 2 (by omega)⟩⟩
theorem saga_at (xs : List SagaD) (h : SagasAt w (.slice A n c) xs) (h0 : 0 < xs.length) : ∃ b o, A = some ⟨b, o, none⟩ ∧ b < w.heap.size ∧ n = xs.length ∧ ∀ i (hi : i < xs.length), w.cell? ⟨b, o + i * 3, none⟩ = some (.string (xs[i]).name) ∧ w.cell? ⟨b, o + i * 3 + 1, none⟩ = some (.string (xs[i]).arg) ∧ w.cell? ⟨b, o + i * 3 + 2, none⟩ = some (xs[i]).sv := by
  obtain ⟨b, o, hA, hb, hn, hc⟩ := rd_at (m := 3) (f := sagac) (fun _ => rfl) xs h.1 h0
  exact ⟨b, o, hA, hb, hn, fun i hi => ⟨hc i hi 0 (by omega), hc i hi 1 (by omega), hc i hi 2 (by omega)⟩⟩
theorem node_at (xs : List NodeD) (h : NodesAt w (.slice A n c) xs) (h0 : 0 < xs.length) : ∃ b o, A = some ⟨b, o, none⟩ ∧ b < w.heap.size ∧ n = xs.length ∧ ∀ i (hi : i < xs.length), w.cell? ⟨b, o + i * 4, none⟩ = some (.int .u8 (xs[i]).kind) ∧ w.cell? ⟨b, o + i * 4 + 1, none⟩ = some (.int .i64 (xs[i]).num) ∧ w.cell? ⟨b, o + i * 4 + 2, none⟩ = some (.string (xs[i]).text) ∧ w.cell? ⟨b, o + i * 4 + 3, none⟩ = some (.int .i64 (xs[i]).kids) := by
  obtain ⟨b, o, hA, hb, hn, hc⟩ := rd_at (m := 4) (f := nodec) (fun _ => rfl) xs h h0
  exact ⟨b, o, hA, hb, hn, fun i hi => ⟨hc i hi 0 (by omega), hc i hi 1 (by omega), hc i hi 2 (by omega), hc i hi 3 (by omega)⟩⟩
end
end Go.Proofs.YtnljdcghaecdaaaGreatDoor
