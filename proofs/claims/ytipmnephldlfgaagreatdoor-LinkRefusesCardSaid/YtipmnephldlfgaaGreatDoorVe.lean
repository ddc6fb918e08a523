/-
  The cores of the first text's rules: by a run in the kernel.
-/
import Derived.Test.YtipmnephldlfgaaGreatDoorVb

namespace Go.Pv
set_option maxRecDepth 1000000
theorem cores_0 : outPure (go base 15 [base0]) = some (.tuple [cores0, vOK]) := by kernel_rfl
end Go.Pv
