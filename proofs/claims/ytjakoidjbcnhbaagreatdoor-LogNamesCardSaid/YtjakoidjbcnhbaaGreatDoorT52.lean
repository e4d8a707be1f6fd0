/- This file holds in one the texts CLog; each says at its head what it proves. -/
import Derived.Test.YtjakoidjbcnhbaaGreatDoorT50
import Derived.Test.YtjakoidjbcnhbaaGreatDoorT51
import Derived.Test.YtjakoidjbcnhbaaGreatDoorCards
import Derived.Test.YtjakoidjbcnhbaaGreatDoorTie
import Derived.ProofKit
import Derived.LaidMore
import Derived.Lay
import Derived.OpenShut
import Derived.SevenTiedAt
import Derived.Stop.Joined
set_option linter.unusedSimpArgs false
set_option linter.unusedVariables false
section
/- LogNames: from what the abstract machine answers to the given card. Conditions: those of the given row and card, no other. -/
namespace Go.Proofs.YtjakoidjbcnhbaaGreatDoor
open Go.AM Go.ChangeShapes Go.WideShapes Go.ChangeAt Go.RowKit

theorem logNames_own : ownKnob Tryz.prog.godebug = none := by kernel_rfl
set_option maxRecDepth 100000 in
theorem logNames_lifted (os : Os) (started : os.Started) (H : Type) (enc : TypeId × Value → H) :
    ReturnsInHanded {} Tryz.checked os 5 .any (fun w args => (Rows.logNamesSpec.pre enc Tryz.prog Tryz.f5 [] false w args ∧ laidMetH Tryz.prog Rows.logNamesRow.laid w) ∧ sizedMet enc Tryz.prog Tryz.f5 (OpenSpec.ofChange Rows.logNamesSpec) false w args)
      (Rows.logNamesSpec.post enc Tryz.prog Tryz.f5 false true false false) := by
  refine returnsInHanded_of_change_and (C := Tryz.checked) (X := fun w _ => laidMetH Tryz.prog Rows.logNamesRow.laid w) (fun _ _ _ hh h => h.of_heap hh) logNames_own started (by kernel_rfl) Tryz.func5
    (ChangeSpec.witness_shaped (enc := enc) (C := Tryz.checked) (os := os) (X := fun w _ => laidMetH Tryz.prog Rows.logNamesRow.laid w) false (World.laidAll Tryz.prog os Rows.logNamesRow.laid) #[] 8 (World.laidAll_os _ _ _)
      (World.shaped_of_ZipB (by kernel_rfl) (by kernel_rfl)) (by kernel_rfl) (by kernel_rfl) (by kernel_rfl)
      (by rw [MakeChecks.laidMetH_plain _ _ _ (by kernel_rfl)]; exact laidMet_laidAll _ (by kernel_rfl) (by kernel_rfl))) ?_
  intro W base args ds gs before hval hW _ _ _ _
  exact BM.law_contract (ts := []) (tb := 4) (book := [3]) okX (by kernel_rfl) (congrArg Array.toList Tryz.params5) (by kernel_rfl) Tryz.underlying4 (by kernel_rfl) (by kernel_rfl) (s := Rows.logNamesSpec) rfl
    (fun ds hd => by
      match ds, hd with
      | [], _ => exact ⟨rfl, rfl, rfl⟩)
    names_law hval hW

theorem logNames_row : Rows.LogNamesSaid :=
  OpenClaim.holds_of_wide 5 Tryz.f5 rfl rfl rfl rfl rfl rfl rfl ⟨rfl, rfl, rfl, rfl, rfl⟩ rfl rfl rfl rfl rfl (by kernel_rfl) Tryz.func5 (joined_of logNames_j1 logNames_j2 logNames_j3 logNames_j4 logNames_j5 logNames_j6 logNames_j7 logNames_j8 logNames_j9 logNames_j10 logNames_j11 logNames_j12 logNames_j13 logNames_j14 logNames_j15 logNames_j16 logNames_j17 logNames_j18 logNames_j19 logNames_j20 logNames_j21 logNames_j22 logNames_j23 logNames_j24 logNames_j25 logNames_j26 logNames_j27 logNames_j28 logNames_j29 logNames_j30 logNames_j31 logNames_j32)
    (of_decide_eq_true (by kernel_rfl)) (by unfold Func.isWrapper; first | (rw [if_pos (by decide +kernel)]; kernel_rfl) | (rw [if_neg (by decide +kernel)]; exact ⟨rfl, rfl⟩))
    (fun os started H enc _ => logNames_lifted os started H enc)

theorem logNames_holds : Rows.LogNamesCardSaid :=
  Claim7.holds_tied_plain_at .later [] [.data, .pinned] true (true, "ebcb8a4ea6e4491a55bd88203b0a0df23590c0893037aa03d1e80532e2550f47") true
    logNames_row (fun _ h => by cases h) (by kernel_rfl) (fun _ h => by cases h) logNames_row_tie rfl ⟨rfl, rfl⟩ (by kernel_rfl) rfl
    (fun f fn hf hfn => by
      obtain rfl : f = 5 := Option.some.inj ((show Tryz.prog.funcNamed "charterhouse/charterhouselaw18.LogNames" = some 5 by kernel_rfl).symm.trans hf) |>.symm
      obtain rfl : fn = Tryz.f5 := (Option.some.inj (Tryz.func5.symm.trans hfn)).symm
      exact ⟨by kernel_rfl, fun j t ht => by
        have hp : Tryz.f5.params.toList = [] := congrArg Array.toList Tryz.params5
        have hm : t ∈ [] := by rw [← hp]; exact Array.mem_toList_iff.2 (Array.mem_of_getElem? ht)
        have hall : ([].all fun u => !Tryz.prog.wantsStandIn u) = true := by kernel_rfl
        exact (show Tryz.prog.wantsStandIn t = false by simpa using List.all_eq_true.1 hall t hm)⟩)
    (by kernel_rfl)
#print axioms logNames_holds
end Go.Proofs.YtjakoidjbcnhbaaGreatDoor
end
