/-
  What the second text is read as: by a run in the kernel.
-/
import Derived.Test.YtipmnephldlfgaaGreatDoorVb

namespace Go.Pv
set_option maxRecDepth 1000000
theorem parse1 : outPure (go base 4 [.str txt1]) = some (.tuple [base1, vOK, vOK]) := by kernel_rfl
end Go.Pv
