/-
  No cell of these rows narrows 'for every input' (looked for: loops, veiled, ifaces, maps, wideKeys, modest, calm, conditions, laid).
  DERIVED. THE GIVEN ROWS OF THIS SEAT. 8 by the template 'for every input the law returns true; each argument reads behind the call as it read before'; 0 by the template 'total and deterministic' (their statements: YtcaeechlpadboaaTotals.lean).
  GIVEN WITH THE SEED: the statements are not yours to turn. If you find one false, say at which input.
  Laid BY PROGRAM, IN A SANDBOX (cutbox-rows.mjs): the forced cells as the released guide's own fill.sh prints them over the translation 9e8437640c9fd0e7… (all of the seat's roots in one cut). By AI agents, Wed Nov 11 2026. No macro, syntax, notation, axiom, sorry.
-/
import Derived.Test.YtcaeechlpadboaaChecked
import GoSem.Claim
import GoSem.ClaimJoined
import GoSem.ClaimMapViews
import Derived.JoinedTies
import Derived.KernelRfl
namespace Go.Proofs.Ytcaeechlpadboaa
/- THE CELL 'sum', in the pinned program and in every row, IS THE sha256 OF THE DUMP (.gsa) THAT YtcaeechlpadboaaProg.lean LOADS. Nothing in Lean hashes anything: it is a label: what it is worth is what the hold of that sum in a sandbox is worth. -/
noncomputable def Try.pinned : Pinned := { name := "ytcaeechlpadboaa", sum := "9e8437640c9fd0e78893d7baa03daaf775e575c91a9155512ef280d29d15ed30", checked := Try.checked }
namespace Rows
def none {H : Type} : Left H := { results := [], args := [] }

/-- 'redresslaw05.MemOther': WHATEVER THE INPUT: true; the input reads as it did. -/
def memOtherSpec : ChangeSpec := { name := "memOther", fn := fun _ => fun
  | [d1, d2] => { results := [.lit (.bool true)], args := [d1, d2] }
  | _ => none }
def memOtherRow : OpenClaim := { program := "ytcaeechlpadboaa", sum := "9e8437640c9fd0e78893d7baa03daaf775e575c91a9155512ef280d29d15ed30", func := "redress/redresslaw05.MemOther", spec := "memOther", inPlace := ["internal/bytealg.abigen_runtime_cmpstring", "slices.overlaps[redress/mem.item[int]]", "slices.overlaps[redress/mem.item[string]]"], unfollowed := true, recurses := true, apart := false }
def MemOtherSaid : Prop := memOtherRow.holds Try.pinned (OpenSpec.ofChange memOtherSpec)

/-- ITS FALSE NEIGHBOUR: 'it returns false'. Refute it at one input. -/
def memOtherWrong : ChangeSpec := { name := "memOther", fn := fun _ => fun
  | [d1, d2] => { results := [.lit (.bool false)], args := [d1, d2] }
  | _ => none }
def MemOtherWrongFalsely : Prop := memOtherRow.holds Try.pinned (OpenSpec.ofChange memOtherWrong)

/-- 'redresslaw05.MemSorted': WHATEVER THE INPUT: true; the input reads as it did. -/
def memSortedSpec : ChangeSpec := { name := "memSorted", fn := fun _ => fun
  | [d1, d2] => { results := [.lit (.bool true)], args := [d1, d2] }
  | _ => none }
def memSortedRow : OpenClaim := { program := "ytcaeechlpadboaa", sum := "9e8437640c9fd0e78893d7baa03daaf775e575c91a9155512ef280d29d15ed30", func := "redress/redresslaw05.MemSorted", spec := "memSorted", inPlace := ["internal/bytealg.abigen_runtime_cmpstring", "slices.overlaps[redress/mem.item[int]]"], unfollowed := true, recurses := true, apart := false }
def MemSortedSaid : Prop := memSortedRow.holds Try.pinned (OpenSpec.ofChange memSortedSpec)

/-- ITS FALSE NEIGHBOUR: 'it returns false'. Refute it at one input. -/
def memSortedWrong : ChangeSpec := { name := "memSorted", fn := fun _ => fun
  | [d1, d2] => { results := [.lit (.bool false)], args := [d1, d2] }
  | _ => none }
def MemSortedWrongFalsely : Prop := memSortedRow.holds Try.pinned (OpenSpec.ofChange memSortedWrong)

/-- 'redresslaw05.MemOthers': WHATEVER THE INPUT: true; the input reads as it did. -/
def memOthersSpec : ChangeSpec := { name := "memOthers", fn := fun _ => fun
  | [d] => { results := [.lit (.bool true)], args := [d] }
  | _ => none }
def memOthersRow : OpenClaim := { program := "ytcaeechlpadboaa", sum := "9e8437640c9fd0e78893d7baa03daaf775e575c91a9155512ef280d29d15ed30", func := "redress/redresslaw05.MemOthers", spec := "memOthers", inPlace := ["internal/bytealg.abigen_runtime_cmpstring", "slices.overlaps[redress/mem.item[int]]", "slices.overlaps[redress/mem.item[string]]"], unfollowed := true, recurses := true, apart := false }
def MemOthersSaid : Prop := memOthersRow.holds Try.pinned (OpenSpec.ofChange memOthersSpec)

/-- ITS FALSE NEIGHBOUR: 'it returns false'. Refute it at one input. -/
def memOthersWrong : ChangeSpec := { name := "memOthers", fn := fun _ => fun
  | [d] => { results := [.lit (.bool false)], args := [d] }
  | _ => none }
def MemOthersWrongFalsely : Prop := memOthersRow.holds Try.pinned (OpenSpec.ofChange memOthersWrong)

/-- 'redresslaw05.MemKnown': WHATEVER THE INPUT: true; the input reads as it did. -/
def memKnownSpec : ChangeSpec := { name := "memKnown", fn := fun _ => fun
  | [] => { results := [.lit (.bool true)], args := [] }
  | _ => none }
def memKnownRow : OpenClaim := { program := "ytcaeechlpadboaa", sum := "9e8437640c9fd0e78893d7baa03daaf775e575c91a9155512ef280d29d15ed30", func := "redress/redresslaw05.MemKnown", spec := "memKnown", inPlace := ["internal/bytealg.abigen_runtime_cmpstring", "slices.overlaps[redress/mem.item[int]]"], unfollowed := true, recurses := true, apart := false }
def MemKnownSaid : Prop := memKnownRow.holds Try.pinned (OpenSpec.ofChange memKnownSpec)

/-- ITS FALSE NEIGHBOUR: 'it returns false'. Refute it at one input. -/
def memKnownWrong : ChangeSpec := { name := "memKnown", fn := fun _ => fun
  | [] => { results := [.lit (.bool false)], args := [] }
  | _ => none }
def MemKnownWrongFalsely : Prop := memKnownRow.holds Try.pinned (OpenSpec.ofChange memKnownWrong)

/-- 'redresslaw05.MemFloors': WHATEVER THE INPUT: true; the input reads as it did. -/
def memFloorsSpec : ChangeSpec := { name := "memFloors", fn := fun _ => fun
  | [d1, d2] => { results := [.lit (.bool true)], args := [d1, d2] }
  | _ => none }
def memFloorsRow : OpenClaim := { program := "ytcaeechlpadboaa", sum := "9e8437640c9fd0e78893d7baa03daaf775e575c91a9155512ef280d29d15ed30", func := "redress/redresslaw05.MemFloors", spec := "memFloors", inPlace := ["internal/bytealg.abigen_runtime_cmpstring", "slices.overlaps[redress/mem.item[int]]"], unfollowed := true, recurses := true, apart := false }
def MemFloorsSaid : Prop := memFloorsRow.holds Try.pinned (OpenSpec.ofChange memFloorsSpec)

/-- ITS FALSE NEIGHBOUR: 'it returns false'. Refute it at one input. -/
def memFloorsWrong : ChangeSpec := { name := "memFloors", fn := fun _ => fun
  | [d1, d2] => { results := [.lit (.bool false)], args := [d1, d2] }
  | _ => none }
def MemFloorsWrongFalsely : Prop := memFloorsRow.holds Try.pinned (OpenSpec.ofChange memFloorsWrong)

/-- 'redresslaw05.MemValues': WHATEVER THE INPUT: true; the input reads as it did. -/
def memValuesSpec : ChangeSpec := { name := "memValues", fn := fun _ => fun
  | [d1, d2] => { results := [.lit (.bool true)], args := [d1, d2] }
  | _ => none }
def memValuesRow : OpenClaim := { program := "ytcaeechlpadboaa", sum := "9e8437640c9fd0e78893d7baa03daaf775e575c91a9155512ef280d29d15ed30", func := "redress/redresslaw05.MemValues", spec := "memValues", inPlace := ["internal/bytealg.abigen_runtime_cmpstring", "slices.overlaps[redress/mem.item[int]]", "slices.overlaps[redress/mem.item[redress/redresslaw05.pair]]"], unfollowed := true, recurses := true, apart := false }
def MemValuesSaid : Prop := memValuesRow.holds Try.pinned (OpenSpec.ofChange memValuesSpec)

/-- ITS FALSE NEIGHBOUR: 'it returns false'. Refute it at one input. -/
def memValuesWrong : ChangeSpec := { name := "memValues", fn := fun _ => fun
  | [d1, d2] => { results := [.lit (.bool false)], args := [d1, d2] }
  | _ => none }
def MemValuesWrongFalsely : Prop := memValuesRow.holds Try.pinned (OpenSpec.ofChange memValuesWrong)

/-- 'redresslaw05.MemStill': WHATEVER THE INPUT: true; the input reads as it did. -/
def memStillSpec : ChangeSpec := { name := "memStill", fn := fun _ => fun
  | [d1, d2] => { results := [.lit (.bool true)], args := [d1, d2] }
  | _ => none }
def memStillRow : OpenClaim := { program := "ytcaeechlpadboaa", sum := "9e8437640c9fd0e78893d7baa03daaf775e575c91a9155512ef280d29d15ed30", func := "redress/redresslaw05.MemStill", spec := "memStill", inPlace := ["internal/bytealg.abigen_runtime_cmpstring", "slices.overlaps[redress/mem.item[int]]"], unfollowed := true, recurses := true, apart := false }
def MemStillSaid : Prop := memStillRow.holds Try.pinned (OpenSpec.ofChange memStillSpec)

/-- ITS FALSE NEIGHBOUR: 'it returns false'. Refute it at one input. -/
def memStillWrong : ChangeSpec := { name := "memStill", fn := fun _ => fun
  | [d1, d2] => { results := [.lit (.bool false)], args := [d1, d2] }
  | _ => none }
def MemStillWrongFalsely : Prop := memStillRow.holds Try.pinned (OpenSpec.ofChange memStillWrong)

/-- 'redresslaw05.MemPlays': WHATEVER THE INPUT: true; the input reads as it did. -/
def memPlaysSpec : ChangeSpec := { name := "memPlays", fn := fun _ => fun
  | [d1, d2] => { results := [.lit (.bool true)], args := [d1, d2] }
  | _ => none }
def memPlaysRow : OpenClaim := { program := "ytcaeechlpadboaa", sum := "9e8437640c9fd0e78893d7baa03daaf775e575c91a9155512ef280d29d15ed30", func := "redress/redresslaw05.MemPlays", spec := "memPlays", inPlace := ["internal/bytealg.abigen_runtime_cmpstring", "slices.overlaps[redress/mem.item[int]]", "slices.overlaps[redress/mem.item[string]]"], unfollowed := true, recurses := true, apart := false }
def MemPlaysSaid : Prop := memPlaysRow.holds Try.pinned (OpenSpec.ofChange memPlaysSpec)

/-- ITS FALSE NEIGHBOUR: 'it returns false'. Refute it at one input. -/
def memPlaysWrong : ChangeSpec := { name := "memPlays", fn := fun _ => fun
  | [d1, d2] => { results := [.lit (.bool false)], args := [d1, d2] }
  | _ => none }
def MemPlaysWrongFalsely : Prop := memPlaysRow.holds Try.pinned (OpenSpec.ofChange memPlaysWrong)

/- THE SECOND FORM. 'bulk': how many values and letters a reading holds, each counted each time it is reached (what is shared counts as often as it is met; a slice's spare places count too). A statement '..UptoSaid' is the law's where the arguments, and the package variables that the reading takes, are together of bulk at most 1048576: NARROWER than '..Said'. Prove '..Said' where nothing that the law and all that it calls make is longer than what came in: it says more and counts as full. Else prove '..UptoSaid'. A law counts once. -/
mutual
def uptoBulk {H : Type} : DataW H → Nat
  | .lit (.string bytes) => bytes.length + 1
  | .lit _ => 1
  | .nil => 1
  | .ptr d => uptoBulk d + 1
  | .slice elems spare => uptoBulkAll elems + uptoBulkAll spare + 1
  | .agg parts => uptoBulkAll parts + 1
  | .iface _ d => uptoBulk d + 1
  | .map entries => uptoBulkEntries entries + 1
  | .held _ => 1
def uptoBulkAll {H : Type} : List (DataW H) → Nat
  | [] => 0
  | d :: r => uptoBulk d + uptoBulkAll r
def uptoBulkEntries {H : Type} : List (Lit × DataW H) → Nat
  | [] => 0
  | x :: r => uptoBulkEntry x + uptoBulkEntries r
def uptoBulkEntry {H : Type} : Lit × DataW H → Nat
  | (.string bytes, d) => bytes.length + uptoBulk d + 1
  | (_, d) => uptoBulk d + 1
 end
def uptoSmall : (H : Type) → List (DataW H) → Bool := fun _ ds => decide (uptoBulkAll ds ≤ 1048576)
def OpenSpec.upto (s : _root_.Go.ChangeSpec) : _root_.Go.OpenSpec := { _root_.Go.OpenSpec.ofChange s with cond := some uptoSmall }

/-- 'redresslaw05.MemOther', WHERE WHAT IT READS IS OF BULK AT MOST 1048576: true; the input reads as it did. -/
def memOtherUptoRow : OpenClaim := { program := "ytcaeechlpadboaa", sum := "9e8437640c9fd0e78893d7baa03daaf775e575c91a9155512ef280d29d15ed30", func := "redress/redresslaw05.MemOther", spec := "memOther", inPlace := ["internal/bytealg.abigen_runtime_cmpstring", "slices.overlaps[redress/mem.item[int]]", "slices.overlaps[redress/mem.item[string]]"], unfollowed := true, recurses := true, apart := false, narrowed := true }
def MemOtherUptoSaid : Prop := memOtherUptoRow.holds Try.pinned (OpenSpec.upto memOtherSpec)

/-- 'redresslaw05.MemSorted', WHERE WHAT IT READS IS OF BULK AT MOST 1048576: true; the input reads as it did. -/
def memSortedUptoRow : OpenClaim := { program := "ytcaeechlpadboaa", sum := "9e8437640c9fd0e78893d7baa03daaf775e575c91a9155512ef280d29d15ed30", func := "redress/redresslaw05.MemSorted", spec := "memSorted", inPlace := ["internal/bytealg.abigen_runtime_cmpstring", "slices.overlaps[redress/mem.item[int]]"], unfollowed := true, recurses := true, apart := false, narrowed := true }
def MemSortedUptoSaid : Prop := memSortedUptoRow.holds Try.pinned (OpenSpec.upto memSortedSpec)

/-- 'redresslaw05.MemOthers', WHERE WHAT IT READS IS OF BULK AT MOST 1048576: true; the input reads as it did. -/
def memOthersUptoRow : OpenClaim := { program := "ytcaeechlpadboaa", sum := "9e8437640c9fd0e78893d7baa03daaf775e575c91a9155512ef280d29d15ed30", func := "redress/redresslaw05.MemOthers", spec := "memOthers", inPlace := ["internal/bytealg.abigen_runtime_cmpstring", "slices.overlaps[redress/mem.item[int]]", "slices.overlaps[redress/mem.item[string]]"], unfollowed := true, recurses := true, apart := false, narrowed := true }
def MemOthersUptoSaid : Prop := memOthersUptoRow.holds Try.pinned (OpenSpec.upto memOthersSpec)

/-- 'redresslaw05.MemKnown', WHERE WHAT IT READS IS OF BULK AT MOST 1048576: true; the input reads as it did. -/
def memKnownUptoRow : OpenClaim := { program := "ytcaeechlpadboaa", sum := "9e8437640c9fd0e78893d7baa03daaf775e575c91a9155512ef280d29d15ed30", func := "redress/redresslaw05.MemKnown", spec := "memKnown", inPlace := ["internal/bytealg.abigen_runtime_cmpstring", "slices.overlaps[redress/mem.item[int]]"], unfollowed := true, recurses := true, apart := false, narrowed := true }
def MemKnownUptoSaid : Prop := memKnownUptoRow.holds Try.pinned (OpenSpec.upto memKnownSpec)

/-- 'redresslaw05.MemFloors', WHERE WHAT IT READS IS OF BULK AT MOST 1048576: true; the input reads as it did. -/
def memFloorsUptoRow : OpenClaim := { program := "ytcaeechlpadboaa", sum := "9e8437640c9fd0e78893d7baa03daaf775e575c91a9155512ef280d29d15ed30", func := "redress/redresslaw05.MemFloors", spec := "memFloors", inPlace := ["internal/bytealg.abigen_runtime_cmpstring", "slices.overlaps[redress/mem.item[int]]"], unfollowed := true, recurses := true, apart := false, narrowed := true }
def MemFloorsUptoSaid : Prop := memFloorsUptoRow.holds Try.pinned (OpenSpec.upto memFloorsSpec)

/-- 'redresslaw05.MemValues', WHERE WHAT IT READS IS OF BULK AT MOST 1048576: true; the input reads as it did. -/
def memValuesUptoRow : OpenClaim := { program := "ytcaeechlpadboaa", sum := "9e8437640c9fd0e78893d7baa03daaf775e575c91a9155512ef280d29d15ed30", func := "redress/redresslaw05.MemValues", spec := "memValues", inPlace := ["internal/bytealg.abigen_runtime_cmpstring", "slices.overlaps[redress/mem.item[int]]", "slices.overlaps[redress/mem.item[redress/redresslaw05.pair]]"], unfollowed := true, recurses := true, apart := false, narrowed := true }
def MemValuesUptoSaid : Prop := memValuesUptoRow.holds Try.pinned (OpenSpec.upto memValuesSpec)

/-- 'redresslaw05.MemStill', WHERE WHAT IT READS IS OF BULK AT MOST 1048576: true; the input reads as it did. -/
def memStillUptoRow : OpenClaim := { program := "ytcaeechlpadboaa", sum := "9e8437640c9fd0e78893d7baa03daaf775e575c91a9155512ef280d29d15ed30", func := "redress/redresslaw05.MemStill", spec := "memStill", inPlace := ["internal/bytealg.abigen_runtime_cmpstring", "slices.overlaps[redress/mem.item[int]]"], unfollowed := true, recurses := true, apart := false, narrowed := true }
def MemStillUptoSaid : Prop := memStillUptoRow.holds Try.pinned (OpenSpec.upto memStillSpec)

/-- 'redresslaw05.MemPlays', WHERE WHAT IT READS IS OF BULK AT MOST 1048576: true; the input reads as it did. -/
def memPlaysUptoRow : OpenClaim := { program := "ytcaeechlpadboaa", sum := "9e8437640c9fd0e78893d7baa03daaf775e575c91a9155512ef280d29d15ed30", func := "redress/redresslaw05.MemPlays", spec := "memPlays", inPlace := ["internal/bytealg.abigen_runtime_cmpstring", "slices.overlaps[redress/mem.item[int]]", "slices.overlaps[redress/mem.item[string]]"], unfollowed := true, recurses := true, apart := false, narrowed := true }
def MemPlaysUptoSaid : Prop := memPlaysUptoRow.holds Try.pinned (OpenSpec.upto memPlaysSpec)

end Rows
end Go.Proofs.Ytcaeechlpadboaa
