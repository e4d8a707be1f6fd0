/- This file holds in one the texts Cp; each says at its head what it proves. -/
import Derived.Test.YteagpfbdmiihaaaGreatDoorT47
import Derived.Test.YteagpfbdmiihaaaGreatDoorT48
import Derived.Test.YteagpfbdmiihaaaGreatDoorCards
import Derived.Test.YteagpfbdmiihaaaGreatDoorTie
import Derived.ProofKit
import Derived.LaidMore
import Derived.Lay
import Derived.OpenShut
import Derived.SevenTiedAt
import Derived.Stop.Joined
set_option linter.unusedSimpArgs false
set_option linter.unusedVariables false
namespace Go.Proofs.YteagpfbdmiihaaaGreatDoor
section
open Go.AM Go.ChangeShapes Go.WideShapes Go.ChangeAt Go.RowKit
theorem Qo5 : ownKnob Tryz.prog.godebug = none := by kernel_rfl
set_option maxRecDepth 100000 in
theorem Qj7 (os : Os) (started : os.Started) (H : Type) (enc : TypeId × Value -> H) :
 ReturnsInHanded {} Tryz.checked os 3 .any (fun w args => (Rows.pairNamesSpec.pre enc Tryz.prog Tryz.f3 [] false w args /\ laidMetH Tryz.prog Rows.pairNamesRow.laid w) /\ sizedMet enc Tryz.prog Tryz.f3 (OpenSpec.ofChange Rows.pairNamesSpec) false w args)
  (Rows.pairNamesSpec.post enc Tryz.prog Tryz.f3 false true false false) := by
 refine returnsInHanded_of_change_and (C := Tryz.checked) (X := fun w _ => laidMetH Tryz.prog Rows.pairNamesRow.laid w) (fun _ _ _ hh h => h.of_heap hh) Qo5 started (by kernel_rfl) Tryz.func3
  (ChangeSpec.witness_shaped (enc := enc) (C := Tryz.checked) (os := os) (X := fun w _ => laidMetH Tryz.prog Rows.pairNamesRow.laid w) false (World.laidAll Tryz.prog os Rows.pairNamesRow.laid) #[] 8 (World.laidAll_os _ _ _)
    (World.shaped_of_ZipB (by kernel_rfl) (by kernel_rfl)) (by kernel_rfl) (by kernel_rfl) (by kernel_rfl)
    (by rw [MakeChecks.laidMetH_plain _ _ _ (by kernel_rfl)]; exact laidMet_laidAll _ (by kernel_rfl) (by kernel_rfl))) ?_
 intro W base args ds gs before hval hW _ _ _ _
 exact BM.law_contract (ts := []) (tb := 4) (book := [3]) okL (by kernel_rfl) (congrArg Array.toList Tryz.params3) (by kernel_rfl) Tryz.underlying4 (by kernel_rfl) (by kernel_rfl) (s := Rows.pairNamesSpec) rfl
  (fun ds hd => by
    match ds, hd with
    | [], _ => exact ⟨rfl, rfl, rfl⟩)
  Qz6 hval hW
theorem Qpm : Rows.PairNamesSaid :=
 OpenClaim.holds_of_wide 3 Tryz.f3 rfl rfl rfl rfl rfl rfl rfl ⟨rfl, rfl, rfl, rfl, rfl⟩ rfl rfl rfl rfl rfl (by kernel_rfl) Tryz.func3 (Q1b Qrs Qrz Qqy Qrp Qr7 Qr6 Qsx Qra Qr4 Qpp Qoa Qn8 Qpb Qon Qpn Qoz Qo9 Qor Qpc Qok Qom Qpj Qo1 Qo4 Qoe Qpl Qpk Qoi Qou Qoh Qpd Qn6)
  (of_decide_eq_true (by kernel_rfl)) (by unfold Func.isWrapper; first | (rw [if_pos (by decide +kernel)]; kernel_rfl) | (rw [if_neg (by decide +kernel)]; exact ⟨rfl, rfl⟩))
  (fun os started H enc _ => Qj7 os started H enc)
theorem pairNames_holds : Rows.PairNamesCardSaid :=
 Claim7.holds_tied_plain_at .later [] [.data, .pinned] true (true, "d38da6c490367e7002839a9a64d4e42e40db4c67e332837f849a3aec3f546e6f") true
  Qpm (fun _ h => by cases h) Qsd (fun _ h => by cases h) pairNames_row_tie rfl ⟨rfl, rfl⟩ Qtd rfl
  (fun f fn hf hfn => by
    obtain rfl : f = 3 := Option.some.inj (Qre.symm.trans hf) |>.symm
    obtain rfl : fn = Tryz.f3 := (Option.some.inj (Tryz.func3.symm.trans hfn)).symm
    exact ⟨Qq8, fun j t ht => by
     have hp : Tryz.f3.params.toList = [] := congrArg Array.toList Tryz.params3
     have hm : t ∈ [] := by rw [<- hp]; exact Array.mem_toList_iff.2 (Znk ht)
     have hall : ([].all fun u => !Tryz.prog.wantsStandIn u) = true := by kernel_rfl
     exact (show Tryz.prog.wantsStandIn t = false by simpa using Zln.1 hall t hm)⟩)
  Qrb
#print axioms pairNames_holds
end
end Go.Proofs.YteagpfbdmiihaaaGreatDoor
