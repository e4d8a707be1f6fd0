/- SpaceKeeps: from what the abstract machine answers to the given card. Conditions: those of the given row and card, no other. -/
import Derived.Test.YtpbhldhmjmfigaaDoorT16
import Derived.Test.YtpbhldhmjmfigaaDoorCards
import Derived.Test.YtpbhldhmjmfigaaDoorTie
import Derived.ProofKit
import Derived.LaidMore
import Derived.Lay
import Derived.OpenShut
import Derived.SevenTiedAt
import Derived.Stop.Joined
set_option linter.unusedSimpArgs false
set_option linter.unusedVariables false
namespace Go.Proofs.YtpbhldhmjmfigaaDoor
open Go.AM Go.ChangeShapes Go.WideShapes Go.ChangeAt Go.RowKit

theorem spaceKeeps_own : ownKnob Tryd.prog.godebug = none := by kernel_rfl
set_option maxRecDepth 100000 in
theorem spaceKeeps_lifted (os : Os) (started : os.Started) (H : Type) (enc : TypeId × Value → H) :
    ReturnsInHanded {} Tryd.checked os 5 .any (fun w args => (Rows.spaceKeepsSpec.pre enc Tryd.prog Tryd.f5 [] false w args ∧ laidMetH Tryd.prog Rows.spaceKeepsRow.laid w) ∧ sizedMet enc Tryd.prog Tryd.f5 (OpenSpec.ofChange Rows.spaceKeepsSpec) false w args)
      (Rows.spaceKeepsSpec.post enc Tryd.prog Tryd.f5 false true false false) := by
  refine returnsInHanded_of_change_and (C := Tryd.checked) (X := fun w _ => laidMetH Tryd.prog Rows.spaceKeepsRow.laid w) (fun _ _ _ hh h => h.of_heap hh) spaceKeeps_own started (by kernel_rfl) Tryd.func5
    (ChangeSpec.witness_shaped (enc := enc) (C := Tryd.checked) (os := os) (X := fun w _ => laidMetH Tryd.prog Rows.spaceKeepsRow.laid w) false (World.laidAll Tryd.prog os Rows.spaceKeepsRow.laid) #[.slice none 0 0, .int .i64 0, .int .u8 0] 8 (World.laidAll_os _ _ _)
      (World.shaped_of_ZipB (by kernel_rfl) (by kernel_rfl)) (by kernel_rfl) (by kernel_rfl) (by kernel_rfl)
      (by rw [MakeChecks.laidMetH_plain _ _ _ (by kernel_rfl)]; exact laidMet_laidAll _ (by kernel_rfl) (by kernel_rfl))) ?_
  intro W base args ds gs before hval hW _ _ _ _
  exact law_contract (ts := [26, 3, 5]) (tb := 4) (book := [26, 5, 3]) ok (by kernel_rfl) (congrArg Array.toList Tryd.params5) (by kernel_rfl) Tryd.underlying4 (by kernel_rfl) (by kernel_rfl) (s := Rows.spaceKeepsSpec) rfl
    (fun ds hd => by
      match ds, hd with
      | [d0, d1, d2], _ => exact ⟨rfl, rfl, rfl⟩)
    keeps_law hval hW

theorem spaceKeeps_row : Rows.SpaceKeepsSaid :=
  OpenClaim.holds_of_wide 5 Tryd.f5 rfl rfl rfl rfl rfl rfl rfl ⟨rfl, rfl, rfl, rfl, rfl⟩ rfl rfl rfl rfl rfl (by kernel_rfl) Tryd.func5 (by kernel_rfl)
    (of_decide_eq_true (by kernel_rfl)) (by unfold Func.isWrapper; first | (rw [if_pos (by decide +kernel)]; kernel_rfl) | (rw [if_neg (by decide +kernel)]; exact ⟨rfl, rfl⟩))
    (fun os started H enc _ => spaceKeeps_lifted os started H enc)

theorem spaceKeeps_holds : Rows.SpaceKeepsCardSaid :=
  Claim7.holds_tied_plain_at .later [] [.data, .pinned] true (true, "d6c17f060a758332194e189ce39cd7544c383778e33bf85dac139a26c864d123") false
    spaceKeeps_row (fun _ h => by cases h) (by kernel_rfl) (fun _ h => by cases h) spaceKeeps_row_tie rfl ⟨rfl, rfl⟩ (by kernel_rfl) rfl
    (fun f fn hf hfn => by
      obtain rfl : f = 5 := Option.some.inj ((show Tryd.prog.funcNamed "charterhouse/charterhouselaw12.SpaceKeeps" = some 5 by kernel_rfl).symm.trans hf) |>.symm
      obtain rfl : fn = Tryd.f5 := (Option.some.inj (Tryd.func5.symm.trans hfn)).symm
      exact ⟨by kernel_rfl, fun j t ht => by
        have hp : Tryd.f5.params.toList = [26, 3, 5] := congrArg Array.toList Tryd.params5
        have hm : t ∈ [26, 3, 5] := by rw [← hp]; exact Array.mem_toList_iff.2 (Array.mem_of_getElem? ht)
        have hall : ([26, 3, 5].all fun u => !Tryd.prog.wantsStandIn u) = true := by kernel_rfl
        exact (show Tryd.prog.wantsStandIn t = false by simpa using List.all_eq_true.1 hall t hm)⟩)
    (by kernel_rfl)
#print axioms spaceKeeps_holds
end Go.Proofs.YtpbhldhmjmfigaaDoor
