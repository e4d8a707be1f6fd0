/- This file holds in one the texts Cd; each says at its head what it proves. -/
import Derived.Test.YtafhcdagifopeaaGreatDoorT48
import Derived.Test.YtafhcdagifopeaaGreatDoorT49
import Derived.Test.YtafhcdagifopeaaGreatDoorCards
import Derived.Test.YtafhcdagifopeaaGreatDoorTie
import Derived.ProofKit
import Derived.LaidMore
import Derived.Lay
import Derived.OpenShut
import Derived.SevenTiedAt
import Derived.Stop.Joined
set_option linter.unusedSimpArgs false
set_option linter.unusedVariables false
section
/- DirNames: from what the abstract machine answers to the given card. Conditions: those of the given row and card, no other. -/
namespace Go.Proofs.YtafhcdagifopeaaGreatDoor
open Go.AM Go.ChangeShapes Go.WideShapes Go.ChangeAt Go.RowKit

theorem dirNames_own : ownKnob Tryz.prog.godebug = none := by kernel_rfl
set_option maxRecDepth 100000 in
theorem dirNames_lifted (os : Os) (started : os.Started) (H : Type) (enc : TypeId × Value → H) :
    ReturnsInHanded {} Tryz.checked os 3 .any (fun w args => (Rows.dirNamesSpec.pre enc Tryz.prog Tryz.f3 [] false w args ∧ laidMetH Tryz.prog Rows.dirNamesRow.laid w) ∧ sizedMet enc Tryz.prog Tryz.f3 (OpenSpec.ofChange Rows.dirNamesSpec) false w args)
      (Rows.dirNamesSpec.post enc Tryz.prog Tryz.f3 false true false false) := by
  refine returnsInHanded_of_change_and (C := Tryz.checked) (X := fun w _ => laidMetH Tryz.prog Rows.dirNamesRow.laid w) (fun _ _ _ hh h => h.of_heap hh) dirNames_own started (by kernel_rfl) Tryz.func3
    (ChangeSpec.witness_shaped (enc := enc) (C := Tryz.checked) (os := os) (X := fun w _ => laidMetH Tryz.prog Rows.dirNamesRow.laid w) false (World.laidAll Tryz.prog os Rows.dirNamesRow.laid) #[] 8 (World.laidAll_os _ _ _)
      (World.shaped_of_ZipB (by kernel_rfl) (by kernel_rfl)) (by kernel_rfl) (by kernel_rfl) (by kernel_rfl)
      (by rw [MakeChecks.laidMetH_plain _ _ _ (by kernel_rfl)]; exact laidMet_laidAll _ (by kernel_rfl) (by kernel_rfl))) ?_
  intro W base args ds gs before hval hW _ _ _ _
  exact BM.law_contract (ts := []) (tb := 4) (book := [3]) okL (by kernel_rfl) (congrArg Array.toList Tryz.params3) (by kernel_rfl) Tryz.underlying4 (by kernel_rfl) (by kernel_rfl) (s := Rows.dirNamesSpec) rfl
    (fun ds hd => by
      match ds, hd with
      | [], _ => exact ⟨rfl, rfl, rfl⟩)
    names_law hval hW

theorem dirNames_row : Rows.DirNamesSaid :=
  OpenClaim.holds_of_wide 3 Tryz.f3 rfl rfl rfl rfl rfl rfl rfl ⟨rfl, rfl, rfl, rfl, rfl⟩ rfl rfl rfl rfl rfl (by kernel_rfl) Tryz.func3 (joined_of dirNames_j1 dirNames_j2 dirNames_j3 dirNames_j4 dirNames_j5 dirNames_j6 dirNames_j7 dirNames_j8 dirNames_j9 dirNames_j10 dirNames_j11 dirNames_j12 dirNames_j13 dirNames_j14 dirNames_j15 dirNames_j16 dirNames_j17 dirNames_j18 dirNames_j19 dirNames_j20 dirNames_j21 dirNames_j22 dirNames_j23 dirNames_j24 dirNames_j25 dirNames_j26 dirNames_j27 dirNames_j28 dirNames_j29 dirNames_j30 dirNames_j31 dirNames_j32)
    (of_decide_eq_true (by kernel_rfl)) (by unfold Func.isWrapper; first | (rw [if_pos (by decide +kernel)]; kernel_rfl) | (rw [if_neg (by decide +kernel)]; exact ⟨rfl, rfl⟩))
    (fun os started H enc _ => dirNames_lifted os started H enc)

theorem dirNames_holds : Rows.DirNamesCardSaid :=
  Claim7.holds_tied_plain_at .later [] [.data, .pinned] true (true, "295de9240478f46306f839446db11d5e5b6969098a567139f44f2fdb15d1f1c7") false
    dirNames_row (fun _ h => by cases h) (by kernel_rfl) (fun _ h => by cases h) dirNames_row_tie rfl ⟨rfl, rfl⟩ (by kernel_rfl) rfl
    (fun f fn hf hfn => by
      obtain rfl : f = 3 := Option.some.inj ((show Tryz.prog.funcNamed "charterhouse/charterhouselaw24.DirNames" = some 3 by kernel_rfl).symm.trans hf) |>.symm
      obtain rfl : fn = Tryz.f3 := (Option.some.inj (Tryz.func3.symm.trans hfn)).symm
      exact ⟨by kernel_rfl, fun j t ht => by
        have hp : Tryz.f3.params.toList = [] := congrArg Array.toList Tryz.params3
        have hm : t ∈ [] := by rw [← hp]; exact Array.mem_toList_iff.2 (Array.mem_of_getElem? ht)
        have hall : ([].all fun u => !Tryz.prog.wantsStandIn u) = true := by kernel_rfl
        exact (show Tryz.prog.wantsStandIn t = false by simpa using List.all_eq_true.1 hall t hm)⟩)
    (by kernel_rfl)
#print axioms dirNames_holds
end Go.Proofs.YtafhcdagifopeaaGreatDoor
end
