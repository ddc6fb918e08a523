/-
  The tied card of proctorlaw18.LinkRefuses: its call returns true. Conditions: the row's own (laid, tied).
-/
import Derived.Test.YtipmnephldlfgaaGreatDoorPe
import Derived.Test.YtipmnephldlfgaaGreatDoorVb
import Derived.Test.YtipmnephldlfgaaGreatDoorVc
import Derived.Test.YtipmnephldlfgaaGreatDoorVd
import Derived.Test.YtipmnephldlfgaaGreatDoorVe
import Derived.Test.YtipmnephldlfgaaGreatDoorVf
import Derived.Test.YtipmnephldlfgaaGreatDoorVg
import Derived.Test.YtipmnephldlfgaaGreatDoorVh
import Derived.Test.YtipmnephldlfgaaGreatDoorRows
import Derived.Test.YtipmnephldlfgaaGreatDoorTie
import Derived.Test.YtipmnephldlfgaaGreatDoorCards
import Derived.ProofKit
import Derived.OpenShut
import Derived.LaidMore
import Derived.Lay
import Derived.SevenTiedAt
import Derived.Stop.Joined

namespace Go.Proofs.YtipmnephldlfgaaGreatDoor
open Go.ChangeShapes Go.WideShapes Go.ChangeAt Go.RowKit Go.Pv
set_option maxRecDepth 1000000

theorem known_ok : HooksOk Tryz.prog hk := by
  refine knownHook_ok base_ok ?_
  intro x hx
  simp only [List.mem_cons, List.not_mem_nil, or_false] at hx
  rcases hx with rfl | rfl | rfl | rfl
  · exact pure_go base_ok parse0 (by kernel_rfl) (by kernel_rfl)
  · exact pure_go base_ok cores_0 (by kernel_rfl) (by kernel_rfl)
  · exact pure_go base_ok parse1 (by kernel_rfl) (by kernel_rfl)
  · exact pure_go base_ok cores_1 (by kernel_rfl) (by kernel_rfl)

theorem walk (w : World) : Calls Tryz.prog 3 #[] w fun e w' => e = .returned (.bool true) ∧ ∀ may, w.keptBut w' may :=
  walk_true Tryz.func3 (by kernel_rfl) (by kernel_rfl) (run_true mix (ftab_ok _) known_ok main) w

theorem own : ownKnob Tryz.prog.godebug = none := by kernel_rfl

theorem lifted (os : Os) (started : os.Started) (H : Type) (enc : TypeId × Value → H) :
    ReturnsInHanded {} Tryz.checked os 3 .any (fun w args => (Rows.linkRefusesSpec.pre enc Tryz.prog Tryz.f3 Rows.linkRefusesRow.domain false w args ∧ laidMetH Tryz.prog Rows.linkRefusesRow.laid w) ∧ sizedMet enc Tryz.prog Tryz.f3 (OpenSpec.ofChange Rows.linkRefusesSpec) false w args)
      (Rows.linkRefusesSpec.post enc Tryz.prog Tryz.f3 false true false false) := by
  refine returnsInHanded_of_change_and (C := Tryz.checked) (X := fun w _ => laidMetH Tryz.prog Rows.linkRefusesRow.laid w) (fun _ _ _ hh h => h.of_heap hh) own started (by kernel_rfl) Tryz.func3
    (ChangeSpec.witness_shaped (enc := enc) (C := Tryz.checked) (os := os) (X := fun w _ => laidMetH Tryz.prog Rows.linkRefusesRow.laid w) false (World.laidAll Tryz.prog os Rows.linkRefusesRow.laid) #[] 8 (World.laidAll_os _ _ _)
      (World.shaped_of_ZipB (by kernel_rfl) (by kernel_rfl)) (by kernel_rfl) (by kernel_rfl) (by kernel_rfl)
      (by rw [MakeChecks.laidMetH_plain _ _ _ (by kernel_rfl)]; exact laidMet_laidAll _ (by kernel_rfl) (by kernel_rfl))) ?_
  intro W base args ds gs before hval0 hW hc _ hL _
  have hW' := hW
  obtain ⟨p, q, hA0, hV, rfl, _, _⟩ := hW
  have hA : DataW.TrodAll enc Tryz.prog W 0 (fun _ => true) true Tryz.f3.params.toList args.toList ds p := hA0
  rw [Tryz.params3] at hA
  obtain ⟨rfl, rfl, rfl⟩ := trodAll_none hA
  obtain ⟨rfl, rfl⟩ := trodVars_none hV
  simp only [List.append_nil] at hW'
  refine (walk W).mono fun e W' ⟨he, hg⟩ => ?_
  subst he
  exact ⟨_, rfl, _, _, _, [], [], [], hW', trodAll_mk1 (shut_bool Tryz.underlying4 _), trodAll_mk0, rfl, hg _, fun h => by cases h⟩

theorem holds : Rows.LinkRefusesSaid :=
  OpenClaim.holds_of_wide 3 Tryz.f3 rfl rfl rfl rfl rfl rfl rfl ⟨rfl, rfl, rfl, rfl, rfl⟩ rfl rfl rfl rfl rfl named Tryz.func3 closed inst wrap
    (fun os started H enc _ => lifted os started H enc)

theorem linkRefuses_card : Rows.LinkRefusesCardSaid :=
  Claim7.holds_tied_plain_at .later [] [.data, .data, .data, .sentinel, .sentinel] true (true, "07a61e2042dc7c4f9b9ebf66252f0c52d4d201573efee10352a77422c6844569") true holds (fun _ h => by cases h) (by kernel_rfl) (fun _ h => by cases h) linkRefuses_row_tie rfl ⟨rfl, rfl⟩ (by kernel_rfl) rfl
    (fun f fn hf hfn => by
      obtain rfl : f = 3 := Option.some.inj ((show Tryz.prog.funcNamed "proctor/proctorlaw18.LinkRefuses" = some 3 by kernel_rfl).symm.trans hf) |>.symm
      obtain rfl : fn = Tryz.f3 := (Option.some.inj (Tryz.func3.symm.trans hfn)).symm
      exact ⟨by kernel_rfl, fun j t ht => by
        rw [Tryz.params3] at ht
        simp at ht⟩)
    (by kernel_rfl)
#print axioms linkRefuses_card
end Go.Proofs.YtipmnephldlfgaaGreatDoor
