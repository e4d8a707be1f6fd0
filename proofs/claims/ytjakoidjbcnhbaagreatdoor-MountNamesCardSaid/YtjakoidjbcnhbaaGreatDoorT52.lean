/- This file holds in one the texts CMnt; each says at its head what it proves. -/
import Derived.Test.YtjakoidjbcnhbaaGreatDoorT50
import Derived.Test.YtjakoidjbcnhbaaGreatDoorT51
import Derived.Test.YtjakoidjbcnhbaaGreatDoorCards
import Derived.Test.YtjakoidjbcnhbaaGreatDoorTie
import Derived.ProofKit
import Derived.LaidMore
import Derived.Lay
import Derived.OpenShut
import Derived.SevenTiedAt
import Derived.Stop.Joined
set_option linter.unusedSimpArgs false
set_option linter.unusedVariables false
section
/- MountNames: from what the abstract machine answers to the given card. Conditions: those of the given row and card, no other. -/
namespace Go.Proofs.YtjakoidjbcnhbaaGreatDoor
open Go.AM Go.ChangeShapes Go.WideShapes Go.ChangeAt Go.RowKit

theorem mountNames_own : ownKnob Tryz.prog.godebug = none := by kernel_rfl
set_option maxRecDepth 100000 in
theorem mountNames_lifted (os : Os) (started : os.Started) (H : Type) (enc : TypeId × Value → H) :
    ReturnsInHanded {} Tryz.checked os 3 .any (fun w args => (Rows.mountNamesSpec.pre enc Tryz.prog Tryz.f3 [] false w args ∧ laidMetH Tryz.prog Rows.mountNamesRow.laid w) ∧ sizedMet enc Tryz.prog Tryz.f3 (OpenSpec.ofChange Rows.mountNamesSpec) false w args)
      (Rows.mountNamesSpec.post enc Tryz.prog Tryz.f3 false true false false) := by
  refine returnsInHanded_of_change_and (C := Tryz.checked) (X := fun w _ => laidMetH Tryz.prog Rows.mountNamesRow.laid w) (fun _ _ _ hh h => h.of_heap hh) mountNames_own started (by kernel_rfl) Tryz.func3
    (ChangeSpec.witness_shaped (enc := enc) (C := Tryz.checked) (os := os) (X := fun w _ => laidMetH Tryz.prog Rows.mountNamesRow.laid w) false (World.laidAll Tryz.prog os Rows.mountNamesRow.laid) #[] 8 (World.laidAll_os _ _ _)
      (World.shaped_of_ZipB (by kernel_rfl) (by kernel_rfl)) (by kernel_rfl) (by kernel_rfl) (by kernel_rfl)
      (by rw [MakeChecks.laidMetH_plain _ _ _ (by kernel_rfl)]; exact laidMet_laidAll _ (by kernel_rfl) (by kernel_rfl))) ?_
  intro W base args ds gs before hval hW _ _ _ _
  exact BM.law_contract (ts := []) (tb := 4) (book := [3]) okX (by kernel_rfl) (congrArg Array.toList Tryz.params3) (by kernel_rfl) Tryz.underlying4 (by kernel_rfl) (by kernel_rfl) (s := Rows.mountNamesSpec) rfl
    (fun ds hd => by
      match ds, hd with
      | [], _ => exact ⟨rfl, rfl, rfl⟩)
    names_law hval hW

theorem mountNames_row : Rows.MountNamesSaid :=
  OpenClaim.holds_of_wide 3 Tryz.f3 rfl rfl rfl rfl rfl rfl rfl ⟨rfl, rfl, rfl, rfl, rfl⟩ rfl rfl rfl rfl rfl (by kernel_rfl) Tryz.func3 (joined_of mountNames_j1 mountNames_j2 mountNames_j3 mountNames_j4 mountNames_j5 mountNames_j6 mountNames_j7 mountNames_j8 mountNames_j9 mountNames_j10 mountNames_j11 mountNames_j12 mountNames_j13 mountNames_j14 mountNames_j15 mountNames_j16 mountNames_j17 mountNames_j18 mountNames_j19 mountNames_j20 mountNames_j21 mountNames_j22 mountNames_j23 mountNames_j24 mountNames_j25 mountNames_j26 mountNames_j27 mountNames_j28 mountNames_j29 mountNames_j30 mountNames_j31 mountNames_j32)
    (of_decide_eq_true (by kernel_rfl)) (by unfold Func.isWrapper; first | (rw [if_pos (by decide +kernel)]; kernel_rfl) | (rw [if_neg (by decide +kernel)]; exact ⟨rfl, rfl⟩))
    (fun os started H enc _ => mountNames_lifted os started H enc)

theorem mountNames_holds : Rows.MountNamesCardSaid :=
  Claim7.holds_tied_plain_at .later [] [.data, .pinned] true (true, "ebcb8a4ea6e4491a55bd88203b0a0df23590c0893037aa03d1e80532e2550f47") true
    mountNames_row (fun _ h => by cases h) (by kernel_rfl) (fun _ h => by cases h) mountNames_row_tie rfl ⟨rfl, rfl⟩ (by kernel_rfl) rfl
    (fun f fn hf hfn => by
      obtain rfl : f = 3 := Option.some.inj ((show Tryz.prog.funcNamed "charterhouse/charterhouselaw19.MountNames" = some 3 by kernel_rfl).symm.trans hf) |>.symm
      obtain rfl : fn = Tryz.f3 := (Option.some.inj (Tryz.func3.symm.trans hfn)).symm
      exact ⟨by kernel_rfl, fun j t ht => by
        have hp : Tryz.f3.params.toList = [] := congrArg Array.toList Tryz.params3
        have hm : t ∈ [] := by rw [← hp]; exact Array.mem_toList_iff.2 (Array.mem_of_getElem? ht)
        have hall : ([].all fun u => !Tryz.prog.wantsStandIn u) = true := by kernel_rfl
        exact (show Tryz.prog.wantsStandIn t = false by simpa using List.all_eq_true.1 hall t hm)⟩)
    (by kernel_rfl)
#print axioms mountNames_holds
end Go.Proofs.YtjakoidjbcnhbaaGreatDoor
end
