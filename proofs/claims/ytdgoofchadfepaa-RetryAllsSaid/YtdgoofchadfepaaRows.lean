/-
  No cell of these rows narrows 'for every input' (looked for: loops, veiled, ifaces, maps, wideKeys, modest, calm, conditions, laid).
  DERIVED. THE GIVEN ROWS OF THIS SEAT. 4 by the template 'for every input the law returns true; each argument reads behind the call as it read before'; 0 by the template 'total and deterministic' (their statements: YtdgoofchadfepaaTotals.lean).
  GIVEN WITH THE SEED: the statements are not yours to turn. If you find one false, say at which input.
  Laid BY PROGRAM, IN A SANDBOX (cutbox-rows.mjs): the forced cells as the released guide's own fill.sh prints them over the translation 0f503a79dab6cee0… (all of the seat's roots in one cut). By AI agents, Wed Nov 11 2026. No macro, syntax, notation, axiom, sorry.
-/
import Derived.Test.YtdgoofchadfepaaChecked
import GoSem.Claim
import GoSem.ClaimJoined
import GoSem.ClaimMapViews
import Derived.JoinedTies
import Derived.KernelRfl
namespace Go.Proofs.Ytdgoofchadfepaa
/- THE CELL 'sum', in the pinned program and in every row, IS THE sha256 OF THE DUMP (.gsa) THAT YtdgoofchadfepaaProg.lean LOADS. Nothing in Lean hashes anything: it is a label: what it is worth is what the hold of that sum in a sandbox is worth. -/
noncomputable def Try.pinned : Pinned := { name := "ytdgoofchadfepaa", sum := "0f503a79dab6cee07c1c3d5e033bf07d37fd3a200dc476d12d467d787590d0fe", checked := Try.checked }
namespace Rows
def none {H : Type} : Left H := { results := [], args := [] }

/-- 'redresslaw18.RetryKnown': WHATEVER THE INPUT: true; the input reads as it did. -/
def retryKnownSpec : ChangeSpec := { name := "retryKnown", fn := fun _ => fun
  | [] => { results := [.lit (.bool true)], args := [] }
  | _ => none }
def retryKnownRow : OpenClaim := { program := "ytdgoofchadfepaa", sum := "0f503a79dab6cee07c1c3d5e033bf07d37fd3a200dc476d12d467d787590d0fe", func := "redress/redresslaw18.RetryKnown", spec := "retryKnown", unfollowed := true, recurses := true, apart := false }
def RetryKnownSaid : Prop := retryKnownRow.holds Try.pinned (OpenSpec.ofChange retryKnownSpec)

/-- ITS FALSE NEIGHBOUR: 'it returns false'. Refute it at one input. -/
def retryKnownWrong : ChangeSpec := { name := "retryKnown", fn := fun _ => fun
  | [] => { results := [.lit (.bool false)], args := [] }
  | _ => none }
def RetryKnownWrongFalsely : Prop := retryKnownRow.holds Try.pinned (OpenSpec.ofChange retryKnownWrong)

/-- 'redresslaw18.RetryTells': WHATEVER THE INPUT: true; the input reads as it did. -/
def retryTellsSpec : ChangeSpec := { name := "retryTells", fn := fun _ => fun
  | [d1, d2, d3] => { results := [.lit (.bool true)], args := [d1, d2, d3] }
  | _ => none }
def retryTellsRow : OpenClaim := { program := "ytdgoofchadfepaa", sum := "0f503a79dab6cee07c1c3d5e033bf07d37fd3a200dc476d12d467d787590d0fe", func := "redress/redresslaw18.RetryTells", spec := "retryTells", unfollowed := true, recurses := true, apart := false }
def RetryTellsSaid : Prop := retryTellsRow.holds Try.pinned (OpenSpec.ofChange retryTellsSpec)

/-- ITS FALSE NEIGHBOUR: 'it returns false'. Refute it at one input. -/
def retryTellsWrong : ChangeSpec := { name := "retryTells", fn := fun _ => fun
  | [d1, d2, d3] => { results := [.lit (.bool false)], args := [d1, d2, d3] }
  | _ => none }
def RetryTellsWrongFalsely : Prop := retryTellsRow.holds Try.pinned (OpenSpec.ofChange retryTellsWrong)

/-- 'redresslaw18.RetryAlls': WHATEVER THE INPUT: true; the input reads as it did. -/
def retryAllsSpec : ChangeSpec := { name := "retryAlls", fn := fun _ => fun
  | [d1, d2] => { results := [.lit (.bool true)], args := [d1, d2] }
  | _ => none }
def retryAllsRow : OpenClaim := { program := "ytdgoofchadfepaa", sum := "0f503a79dab6cee07c1c3d5e033bf07d37fd3a200dc476d12d467d787590d0fe", func := "redress/redresslaw18.RetryAlls", spec := "retryAlls", unfollowed := true, recurses := true, apart := false }
def RetryAllsSaid : Prop := retryAllsRow.holds Try.pinned (OpenSpec.ofChange retryAllsSpec)

/-- ITS FALSE NEIGHBOUR: 'it returns false'. Refute it at one input. -/
def retryAllsWrong : ChangeSpec := { name := "retryAlls", fn := fun _ => fun
  | [d1, d2] => { results := [.lit (.bool false)], args := [d1, d2] }
  | _ => none }
def RetryAllsWrongFalsely : Prop := retryAllsRow.holds Try.pinned (OpenSpec.ofChange retryAllsWrong)

/-- 'redresslaw18.RetryHolds': WHATEVER THE INPUT: true; the input reads as it did. -/
def retryHoldsSpec : ChangeSpec := { name := "retryHolds", fn := fun _ => fun
  | [d1, d2, d3] => { results := [.lit (.bool true)], args := [d1, d2, d3] }
  | _ => none }
def retryHoldsRow : OpenClaim := { program := "ytdgoofchadfepaa", sum := "0f503a79dab6cee07c1c3d5e033bf07d37fd3a200dc476d12d467d787590d0fe", func := "redress/redresslaw18.RetryHolds", spec := "retryHolds", unfollowed := true, recurses := true, apart := false }
def RetryHoldsSaid : Prop := retryHoldsRow.holds Try.pinned (OpenSpec.ofChange retryHoldsSpec)

/-- ITS FALSE NEIGHBOUR: 'it returns false'. Refute it at one input. -/
def retryHoldsWrong : ChangeSpec := { name := "retryHolds", fn := fun _ => fun
  | [d1, d2, d3] => { results := [.lit (.bool false)], args := [d1, d2, d3] }
  | _ => none }
def RetryHoldsWrongFalsely : Prop := retryHoldsRow.holds Try.pinned (OpenSpec.ofChange retryHoldsWrong)

/- THE SECOND FORM. 'bulk': how many values and letters a reading holds, each counted each time it is reached (what is shared counts as often as it is met; a slice's spare places count too). A statement '..UptoSaid' is the law's where the arguments, and the package variables that the reading takes, are together of bulk at most 1048576: NARROWER than '..Said'. Prove '..Said' where nothing that the law and all that it calls make is longer than what came in: it says more and counts as full. Else prove '..UptoSaid'. A law counts once. -/
mutual
def uptoBulk {H : Type} : DataW H → Nat
  | .lit (.string bytes) => bytes.length + 1
  | .lit _ => 1
  | .nil => 1
  | .ptr d => uptoBulk d + 1
  | .slice elems spare => uptoBulkAll elems + uptoBulkAll spare + 1
  | .agg parts => uptoBulkAll parts + 1
  | .iface _ d => uptoBulk d + 1
  | .map entries => uptoBulkEntries entries + 1
  | .held _ => 1
def uptoBulkAll {H : Type} : List (DataW H) → Nat
  | [] => 0
  | d :: r => uptoBulk d + uptoBulkAll r
def uptoBulkEntries {H : Type} : List (Lit × DataW H) → Nat
  | [] => 0
  | x :: r => uptoBulkEntry x + uptoBulkEntries r
def uptoBulkEntry {H : Type} : Lit × DataW H → Nat
  | (.string bytes, d) => bytes.length + uptoBulk d + 1
  | (_, d) => uptoBulk d + 1
 end
def uptoSmall : (H : Type) → List (DataW H) → Bool := fun _ ds => decide (uptoBulkAll ds ≤ 1048576)
def OpenSpec.upto (s : _root_.Go.ChangeSpec) : _root_.Go.OpenSpec := { _root_.Go.OpenSpec.ofChange s with cond := some uptoSmall }

/-- 'redresslaw18.RetryKnown', WHERE WHAT IT READS IS OF BULK AT MOST 1048576: true; the input reads as it did. -/
def retryKnownUptoRow : OpenClaim := { program := "ytdgoofchadfepaa", sum := "0f503a79dab6cee07c1c3d5e033bf07d37fd3a200dc476d12d467d787590d0fe", func := "redress/redresslaw18.RetryKnown", spec := "retryKnown", unfollowed := true, recurses := true, apart := false, narrowed := true }
def RetryKnownUptoSaid : Prop := retryKnownUptoRow.holds Try.pinned (OpenSpec.upto retryKnownSpec)

/-- 'redresslaw18.RetryTells', WHERE WHAT IT READS IS OF BULK AT MOST 1048576: true; the input reads as it did. -/
def retryTellsUptoRow : OpenClaim := { program := "ytdgoofchadfepaa", sum := "0f503a79dab6cee07c1c3d5e033bf07d37fd3a200dc476d12d467d787590d0fe", func := "redress/redresslaw18.RetryTells", spec := "retryTells", unfollowed := true, recurses := true, apart := false, narrowed := true }
def RetryTellsUptoSaid : Prop := retryTellsUptoRow.holds Try.pinned (OpenSpec.upto retryTellsSpec)

/-- 'redresslaw18.RetryAlls', WHERE WHAT IT READS IS OF BULK AT MOST 1048576: true; the input reads as it did. -/
def retryAllsUptoRow : OpenClaim := { program := "ytdgoofchadfepaa", sum := "0f503a79dab6cee07c1c3d5e033bf07d37fd3a200dc476d12d467d787590d0fe", func := "redress/redresslaw18.RetryAlls", spec := "retryAlls", unfollowed := true, recurses := true, apart := false, narrowed := true }
def RetryAllsUptoSaid : Prop := retryAllsUptoRow.holds Try.pinned (OpenSpec.upto retryAllsSpec)

/-- 'redresslaw18.RetryHolds', WHERE WHAT IT READS IS OF BULK AT MOST 1048576: true; the input reads as it did. -/
def retryHoldsUptoRow : OpenClaim := { program := "ytdgoofchadfepaa", sum := "0f503a79dab6cee07c1c3d5e033bf07d37fd3a200dc476d12d467d787590d0fe", func := "redress/redresslaw18.RetryHolds", spec := "retryHolds", unfollowed := true, recurses := true, apart := false, narrowed := true }
def RetryHoldsUptoSaid : Prop := retryHoldsUptoRow.holds Try.pinned (OpenSpec.upto retryHoldsSpec)

end Rows
end Go.Proofs.Ytdgoofchadfepaa
