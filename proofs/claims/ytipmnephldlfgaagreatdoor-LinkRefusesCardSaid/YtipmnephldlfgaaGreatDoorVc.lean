/-
  What the first text is read as: by a run in the kernel.
-/
import Derived.Test.YtipmnephldlfgaaGreatDoorVb

namespace Go.Pv
set_option maxRecDepth 1000000
theorem parse0 : outPure (go base 4 [.str txt0]) = some (.tuple [base0, vOK, vOK]) := by kernel_rfl
end Go.Pv
