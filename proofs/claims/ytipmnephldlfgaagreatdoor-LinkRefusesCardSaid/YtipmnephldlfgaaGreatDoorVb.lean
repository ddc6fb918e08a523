/-
  The program's rows without a body, and the run's frame.
-/
import Derived.Test.YtipmnephldlfgaaGreatDoorVa
import Derived.Test.YtipmnephldlfgaaGreatDoorProg

namespace Go.Pv
open Go.Proofs
set_option maxRecDepth 1000000
theorem rowB : RowIs Tryz.prog 296 Extern.BytealgIndexByte.indexByte := rowIs_of (by kernel_rfl) (by kernel_rfl) (by kernel_rfl) (by kernel_rfl) (by kernel_rfl)
theorem rowN : RowIs Tryz.prog 292 Extern.AbiNoEscape.same := rowIs_of (by kernel_rfl) (by kernel_rfl) (by kernel_rfl) (by kernel_rfl) (by kernel_rfl)
theorem rowC : RowIs Tryz.prog 241 Extern.MapsClone.clone := rowIs_of (by kernel_rfl) (by kernel_rfl) (by kernel_rfl) (by kernel_rfl) (by kernel_rfl)
theorem mix : Tryz.prog.follows .mixedOrders = true := by kernel_rfl
noncomputable def base : Hooks := stdHook 296 292 241
theorem base_ok : HooksOk Tryz.prog base := stdHook_ok rowB rowN rowC
noncomputable def go (hook : Hooks) (k : Nat) (args : List VVal) : Option (VOut × EH) := kCall Tryz.prog (ftab Tryz.prog).get hook 1000000 1000 k args EH0
theorem pure_go {hook : Hooks} (hh : HooksOk Tryz.prog hook) {k : Nat} {args : List VVal} {r : VVal} (h : outPure (go hook k args) = some r) (ha : pureVs args = true) (hp : pureV r = true) : PureCall Tryz.prog k args r :=
  pure_run mix (ftab_ok _) hh h ha hp
end Go.Pv
