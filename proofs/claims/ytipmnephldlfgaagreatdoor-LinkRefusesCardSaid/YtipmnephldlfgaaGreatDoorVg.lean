/-
  LinkRefuses returns true, the four calls before taken as known: by a run in the kernel.
-/
import Derived.Test.YtipmnephldlfgaaGreatDoorVb

namespace Go.Pv
set_option maxRecDepth 1000000
noncomputable def hk : Hooks := knownHook [⟨4, [.str txt0], .tuple [base0, vOK, vOK]⟩, ⟨15, [base0], .tuple [cores0, vOK]⟩, ⟨4, [.str txt1], .tuple [base1, vOK, vOK]⟩, ⟨15, [base1], .tuple [cores1, vOK]⟩] base
theorem main : retBool (go hk 3 []) = some true := by kernel_rfl
end Go.Pv
