/-
  Closed facts of the row.
-/
import Derived.Test.YtipmnephldlfgaaGreatDoorPe
import Derived.Test.YtipmnephldlfgaaGreatDoorVb
import Derived.Test.YtipmnephldlfgaaGreatDoorRows
import Derived.Test.YtipmnephldlfgaaGreatDoorTie
import Derived.Test.YtipmnephldlfgaaGreatDoorCards
import Derived.ProofKit
import Derived.OpenShut
import Derived.LaidMore
import Derived.Lay
import Derived.SevenTiedAt
import Derived.Stop.Joined

namespace Go.Proofs.YtipmnephldlfgaaGreatDoor
open Go.ChangeShapes Go.WideShapes Go.ChangeAt Go.RowKit Go.Pv
set_option maxRecDepth 1000000

theorem closed : joinedFacts Tryz.pinned.checked.prog 3 Tryz.f3 Rows.linkRefusesSpec Rows.linkRefusesRow = true := by kernel_rfl
theorem named : Tryz.pinned.checked.prog.funcNamed Rows.linkRefusesRow.func = some 3 := by kernel_rfl
theorem inst : Tryz.f3.isInstance Tryz.pinned.checked.prog Rows.linkRefusesRow.origin Rows.linkRefusesRow.targs := of_decide_eq_true (by kernel_rfl)
theorem wrap : Tryz.f3.isWrapper Tryz.pinned.checked.prog Rows.linkRefusesRow.wrapper Rows.linkRefusesRow.mainSum := by
  unfold Func.isWrapper; first | (rw [if_pos (by decide +kernel)]; kernel_rfl) | (rw [if_neg (by decide +kernel)]; exact ⟨rfl, rfl⟩)
end Go.Proofs.YtipmnephldlfgaaGreatDoor
