/-
  strings.Compare.
-/
import Derived.Test.YtcaeechlpadboaaOrd
import Derived.Test.YtcaeechlpadboaaChecked
import Derived.Test.YtcaeechlpadboaaStep
import Derived.WalkSpells
import Derived.WalkLawsBesides
import Derived.Outline
import Derived.BigQuiet
import Derived.Deep.QuietTactic
import Derived.Deep.RegionHeld3
import Derived.Deep.RegionWith
import Derived.BigRegion
import Derived.StillTailTactics
import Derived.Deep.LoopGhost
import Derived.Laws.Externs
import Derived.OwnWalk
namespace Go.Proofs.Ytcaeechlpadboaa
open Go.RowKit Go.Lib

theorem own : ownKnob Try.prog.godebug = none := by kernel_rfl
theorem laidOut : laidOutB Try.prog = true := by kernel_rfl
def Same (v : Value) (w : World) (e : Ending) (w' : World) : Prop := e = .returned v ∧ Turn (fun _ => False) w w'

theorem run_cmpstring (a b : ByteArray) (w : World) : (callFunc 86 #[.string a, .string b]).run Try.prog w = .ok (.value (.int .i64 (kc a b))) w := by
  rw [run_callFunc_extern Try.func86 (by kernel_rfl) (by kernel_rfl) (by kernel_rfl) (e := Extern.BytealgCompare.compare) (by kernel_rfl), Lib.run_compareString]
  rfl
set_option maxRecDepth 100000 in
theorem compareString_any (a b : ByteArray) (w : World) : Calls Try.prog 82 #[.string a, .string b] w fun e w' => e = .returned (.int .i64 (kc a b)) ∧ w' = w := by
  have hr := run_cmpstring a b w
  go_enter Try.func82, Try.ntmps82
  go_wp2_with (simp only [hr])
  go_ret
  exact ⟨rfl, rfl⟩
set_option maxRecDepth 100000 in
theorem compare_any (a b : ByteArray) (w : World) : Calls Try.prog 70 #[.string a, .string b] w fun e w' => e = .returned (.int .i64 (kc a b)) ∧ w' = w := by
  go_enter Try.func70, Try.ntmps70
  go_wp2_with fail
  refine (compareString_any a b w).mono ?_
  rintro e w1 ⟨rfl, rfl⟩
  go_wp2_with fail
  go_ret
  exact ⟨rfl, rfl⟩
end Go.Proofs.Ytcaeechlpadboaa
