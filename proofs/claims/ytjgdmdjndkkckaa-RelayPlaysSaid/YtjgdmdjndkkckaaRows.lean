/-
  No cell of these rows narrows 'for every input' (looked for: loops, veiled, ifaces, maps, wideKeys, modest, calm, conditions, laid).
  DERIVED. THE GIVEN ROWS OF THIS SEAT. 4 by the template 'for every input the law returns true; each argument reads behind the call as it read before'; 0 by the template 'total and deterministic' (their statements: YtjgdmdjndkkckaaTotals.lean).
  GIVEN WITH THE SEED: the statements are not yours to turn. If you find one false, say at which input.
  Laid BY PROGRAM, IN A SANDBOX (cutbox-rows.mjs): the forced cells as the released guide's own fill.sh prints them over the translation b86d18f2dd145f57… (all of the seat's roots in one cut). By AI agents, Wed Nov 11 2026. No macro, syntax, notation, axiom, sorry.
-/
import Derived.Test.YtjgdmdjndkkckaaChecked
import GoSem.Claim
import GoSem.ClaimJoined
import GoSem.ClaimMapViews
import Derived.JoinedTies
import Derived.KernelRfl
namespace Go.Proofs.Ytjgdmdjndkkckaa
/- THE CELL 'sum', in the pinned program and in every row, IS THE sha256 OF THE DUMP (.gsa) THAT YtjgdmdjndkkckaaProg.lean LOADS. Nothing in Lean hashes anything: it is a label: what it is worth is what the hold of that sum in a sandbox is worth. -/
noncomputable def Try.pinned : Pinned := { name := "ytjgdmdjndkkckaa", sum := "b86d18f2dd145f5771329a2d53095421df13247ea0919d02027d23409841d553", checked := Try.checked }
namespace Rows
def none {H : Type} : Left H := { results := [], args := [] }

/-- 'redresslaw21.RelayOrder': WHATEVER THE INPUT: true; the input reads as it did. -/
def relayOrderSpec : ChangeSpec := { name := "relayOrder", fn := fun _ => fun
  | [d1, d2] => { results := [.lit (.bool true)], args := [d1, d2] }
  | _ => none }
def relayOrderRow : OpenClaim := { program := "ytjgdmdjndkkckaa", sum := "b86d18f2dd145f5771329a2d53095421df13247ea0919d02027d23409841d553", func := "redress/redresslaw21.RelayOrder", spec := "relayOrder", apart := false }
def RelayOrderSaid : Prop := relayOrderRow.holds Try.pinned (OpenSpec.ofChange relayOrderSpec)

/-- ITS FALSE NEIGHBOUR: 'it returns false'. Refute it at one input. -/
def relayOrderWrong : ChangeSpec := { name := "relayOrder", fn := fun _ => fun
  | [d1, d2] => { results := [.lit (.bool false)], args := [d1, d2] }
  | _ => none }
def RelayOrderWrongFalsely : Prop := relayOrderRow.holds Try.pinned (OpenSpec.ofChange relayOrderWrong)

/-- 'redresslaw21.RelayMoves': WHATEVER THE INPUT: true; the input reads as it did. -/
def relayMovesSpec : ChangeSpec := { name := "relayMoves", fn := fun _ => fun
  | [d1, d2, d3, d4] => { results := [.lit (.bool true)], args := [d1, d2, d3, d4] }
  | _ => none }
def relayMovesRow : OpenClaim := { program := "ytjgdmdjndkkckaa", sum := "b86d18f2dd145f5771329a2d53095421df13247ea0919d02027d23409841d553", func := "redress/redresslaw21.RelayMoves", spec := "relayMoves", apart := false }
def RelayMovesSaid : Prop := relayMovesRow.holds Try.pinned (OpenSpec.ofChange relayMovesSpec)

/-- ITS FALSE NEIGHBOUR: 'it returns false'. Refute it at one input. -/
def relayMovesWrong : ChangeSpec := { name := "relayMoves", fn := fun _ => fun
  | [d1, d2, d3, d4] => { results := [.lit (.bool false)], args := [d1, d2, d3, d4] }
  | _ => none }
def RelayMovesWrongFalsely : Prop := relayMovesRow.holds Try.pinned (OpenSpec.ofChange relayMovesWrong)

/-- 'redresslaw21.RelayPlays': WHATEVER THE INPUT: true; the input reads as it did. -/
def relayPlaysSpec : ChangeSpec := { name := "relayPlays", fn := fun _ => fun
  | [d1, d2] => { results := [.lit (.bool true)], args := [d1, d2] }
  | _ => none }
def relayPlaysRow : OpenClaim := { program := "ytjgdmdjndkkckaa", sum := "b86d18f2dd145f5771329a2d53095421df13247ea0919d02027d23409841d553", func := "redress/redresslaw21.RelayPlays", spec := "relayPlays", apart := false }
def RelayPlaysSaid : Prop := relayPlaysRow.holds Try.pinned (OpenSpec.ofChange relayPlaysSpec)

/-- ITS FALSE NEIGHBOUR: 'it returns false'. Refute it at one input. -/
def relayPlaysWrong : ChangeSpec := { name := "relayPlays", fn := fun _ => fun
  | [d1, d2] => { results := [.lit (.bool false)], args := [d1, d2] }
  | _ => none }
def RelayPlaysWrongFalsely : Prop := relayPlaysRow.holds Try.pinned (OpenSpec.ofChange relayPlaysWrong)

/-- 'redresslaw21.RelayNone': WHATEVER THE INPUT: true; the input reads as it did. -/
def relayNoneSpec : ChangeSpec := { name := "relayNone", fn := fun _ => fun
  | [d1, d2] => { results := [.lit (.bool true)], args := [d1, d2] }
  | _ => none }
def relayNoneRow : OpenClaim := { program := "ytjgdmdjndkkckaa", sum := "b86d18f2dd145f5771329a2d53095421df13247ea0919d02027d23409841d553", func := "redress/redresslaw21.RelayNone", spec := "relayNone", apart := false }
def RelayNoneSaid : Prop := relayNoneRow.holds Try.pinned (OpenSpec.ofChange relayNoneSpec)

/-- ITS FALSE NEIGHBOUR: 'it returns false'. Refute it at one input. -/
def relayNoneWrong : ChangeSpec := { name := "relayNone", fn := fun _ => fun
  | [d1, d2] => { results := [.lit (.bool false)], args := [d1, d2] }
  | _ => none }
def RelayNoneWrongFalsely : Prop := relayNoneRow.holds Try.pinned (OpenSpec.ofChange relayNoneWrong)

/- THE SECOND FORM. 'bulk': how many values and letters a reading holds, each counted each time it is reached (what is shared counts as often as it is met; a slice's spare places count too). A statement '..UptoSaid' is the law's where the arguments, and the package variables that the reading takes, are together of bulk at most 1048576: NARROWER than '..Said'. Prove '..Said' where nothing that the law and all that it calls make is longer than what came in: it says more and counts as full. Else prove '..UptoSaid'. A law counts once. -/
mutual
def uptoBulk {H : Type} : DataW H → Nat
  | .lit (.string bytes) => bytes.length + 1
  | .lit _ => 1
  | .nil => 1
  | .ptr d => uptoBulk d + 1
  | .slice elems spare => uptoBulkAll elems + uptoBulkAll spare + 1
  | .agg parts => uptoBulkAll parts + 1
  | .iface _ d => uptoBulk d + 1
  | .map entries => uptoBulkEntries entries + 1
  | .held _ => 1
def uptoBulkAll {H : Type} : List (DataW H) → Nat
  | [] => 0
  | d :: r => uptoBulk d + uptoBulkAll r
def uptoBulkEntries {H : Type} : List (Lit × DataW H) → Nat
  | [] => 0
  | x :: r => uptoBulkEntry x + uptoBulkEntries r
def uptoBulkEntry {H : Type} : Lit × DataW H → Nat
  | (.string bytes, d) => bytes.length + uptoBulk d + 1
  | (_, d) => uptoBulk d + 1
 end
def uptoSmall : (H : Type) → List (DataW H) → Bool := fun _ ds => decide (uptoBulkAll ds ≤ 1048576)
def OpenSpec.upto (s : _root_.Go.ChangeSpec) : _root_.Go.OpenSpec := { _root_.Go.OpenSpec.ofChange s with cond := some uptoSmall }

/-- 'redresslaw21.RelayOrder', WHERE WHAT IT READS IS OF BULK AT MOST 1048576: true; the input reads as it did. -/
def relayOrderUptoRow : OpenClaim := { program := "ytjgdmdjndkkckaa", sum := "b86d18f2dd145f5771329a2d53095421df13247ea0919d02027d23409841d553", func := "redress/redresslaw21.RelayOrder", spec := "relayOrder", apart := false, narrowed := true }
def RelayOrderUptoSaid : Prop := relayOrderUptoRow.holds Try.pinned (OpenSpec.upto relayOrderSpec)

/-- 'redresslaw21.RelayMoves', WHERE WHAT IT READS IS OF BULK AT MOST 1048576: true; the input reads as it did. -/
def relayMovesUptoRow : OpenClaim := { program := "ytjgdmdjndkkckaa", sum := "b86d18f2dd145f5771329a2d53095421df13247ea0919d02027d23409841d553", func := "redress/redresslaw21.RelayMoves", spec := "relayMoves", apart := false, narrowed := true }
def RelayMovesUptoSaid : Prop := relayMovesUptoRow.holds Try.pinned (OpenSpec.upto relayMovesSpec)

/-- 'redresslaw21.RelayPlays', WHERE WHAT IT READS IS OF BULK AT MOST 1048576: true; the input reads as it did. -/
def relayPlaysUptoRow : OpenClaim := { program := "ytjgdmdjndkkckaa", sum := "b86d18f2dd145f5771329a2d53095421df13247ea0919d02027d23409841d553", func := "redress/redresslaw21.RelayPlays", spec := "relayPlays", apart := false, narrowed := true }
def RelayPlaysUptoSaid : Prop := relayPlaysUptoRow.holds Try.pinned (OpenSpec.upto relayPlaysSpec)

/-- 'redresslaw21.RelayNone', WHERE WHAT IT READS IS OF BULK AT MOST 1048576: true; the input reads as it did. -/
def relayNoneUptoRow : OpenClaim := { program := "ytjgdmdjndkkckaa", sum := "b86d18f2dd145f5771329a2d53095421df13247ea0919d02027d23409841d553", func := "redress/redresslaw21.RelayNone", spec := "relayNone", apart := false, narrowed := true }
def RelayNoneUptoSaid : Prop := relayNoneUptoRow.holds Try.pinned (OpenSpec.upto relayNoneSpec)

end Rows
end Go.Proofs.Ytjgdmdjndkkckaa
