
/-
  Endings that are the same.
-/
import Derived.Test.YtipjelkdbbhcpaaProg
import Derived.WalkKit
set_option linter.unusedVariables false
namespace Go.Proofs.Ytipjelkdbbhcpaa

theorem ret_int {k : IntKind} {a b : Int} (h : a = b) : Ending.returned (.int k a) = .returned (.int k b) := by rw [h]
theorem ret_bool {a b : Bool} (h : a = b) : Ending.returned (.bool a) = .returned (.bool b) := by rw [h]
end Go.Proofs.Ytipjelkdbbhcpaa
