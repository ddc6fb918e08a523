/-
  The cores of the second text's rules: by a run in the kernel.
-/
import Derived.Test.YtipmnephldlfgaaGreatDoorVb

namespace Go.Pv
set_option maxRecDepth 1000000
theorem cores_1 : outPure (go base 15 [base1]) = some (.tuple [cores1, vOK]) := by kernel_rfl
end Go.Pv
