/- This file holds in one the texts Cf; each says at its head what it proves. -/
import Derived.Test.YtafhcdagifopeaaGreatDoorT42
import Derived.Test.YtafhcdagifopeaaGreatDoorT43
import Derived.Test.YtafhcdagifopeaaGreatDoorCards
import Derived.Test.YtafhcdagifopeaaGreatDoorTie
import Derived.ProofKit
import Derived.LaidMore
import Derived.Lay
import Derived.OpenShut
import Derived.SevenTiedAt
import Derived.Stop.Joined
set_option linter.unusedSimpArgs false
set_option linter.unusedVariables false
namespace Go.Proofs.YtafhcdagifopeaaGreatDoor
section
open Go.AM Go.ChangeShapes Go.WideShapes Go.ChangeAt Go.RowKit
theorem Qn2 : ownKnob Tryz.prog.godebug = none := by kernel_rfl
set_option maxRecDepth 100000 in
theorem Qix (os : Os) (started : os.Started) (H : Type) (enc : TypeId × Value -> H) :
 ReturnsInHanded {} Tryz.checked os 4 .any (fun w args => (Rows.fileNamesSpec.pre enc Tryz.prog Tryz.f4 [] false w args /\ laidMetH Tryz.prog Rows.fileNamesRow.laid w) /\ sizedMet enc Tryz.prog Tryz.f4 (OpenSpec.ofChange Rows.fileNamesSpec) false w args)
  (Rows.fileNamesSpec.post enc Tryz.prog Tryz.f4 false true false false) := by
 refine returnsInHanded_of_change_and (C := Tryz.checked) (X := fun w _ => laidMetH Tryz.prog Rows.fileNamesRow.laid w) (fun _ _ _ hh h => h.of_heap hh) Qn2 started (by kernel_rfl) Tryz.func4
  (ChangeSpec.witness_shaped (enc := enc) (C := Tryz.checked) (os := os) (X := fun w _ => laidMetH Tryz.prog Rows.fileNamesRow.laid w) false (World.laidAll Tryz.prog os Rows.fileNamesRow.laid) #[] 8 (World.laidAll_os _ _ _)
    (World.shaped_of_ZipB (by kernel_rfl) (by kernel_rfl)) (by kernel_rfl) (by kernel_rfl) (by kernel_rfl)
    (by rw [MakeChecks.laidMetH_plain _ _ _ (by kernel_rfl)]; exact laidMet_laidAll _ (by kernel_rfl) (by kernel_rfl))) ?_
 intro W base args ds gs before hval hW _ _ _ _
 exact BM.law_contract (ts := []) (tb := 4) (book := [3]) okL (by kernel_rfl) (congrArg Array.toList Tryz.params4) (by kernel_rfl) Tryz.underlying4 (by kernel_rfl) (by kernel_rfl) (s := Rows.fileNamesSpec) rfl
  (fun ds hd => by
    match ds, hd with
    | [], _ => exact ⟨rfl, rfl, rfl⟩)
  names_law hval hW
theorem Qo6 : Rows.FileNamesSaid :=
 OpenClaim.holds_of_wide 4 Tryz.f4 rfl rfl rfl rfl rfl rfl rfl ⟨rfl, rfl, rfl, rfl, rfl⟩ rfl rfl rfl rfl rfl (by kernel_rfl) Tryz.func4 (Q0d Qq2 Qsx Qrv Qss Qry Qsf Qrj Qrk Qr1 Qou Qox Qor Qoz Qoc Qoh Qn9 Qn5 Qpb Qnu Qo2 Qn1 Qnx Qoj Qnz Qoe Qog Qo0 Qok Qn4 Qow Qo4 Qop)
  (of_decide_eq_true (by kernel_rfl)) (by unfold Func.isWrapper; first | (rw [if_pos (by decide +kernel)]; kernel_rfl) | (rw [if_neg (by decide +kernel)]; exact ⟨rfl, rfl⟩))
  (fun os started H enc _ => Qix os started H enc)
theorem fileNames_holds : Rows.FileNamesCardSaid :=
 Claim7.holds_tied_plain_at .later [] [.data, .pinned] true (true, "295de9240478f46306f839446db11d5e5b6969098a567139f44f2fdb15d1f1c7") false
  Qo6 (fun _ h => by cases h) (by kernel_rfl) (fun _ h => by cases h) fileNames_row_tie rfl ⟨rfl, rfl⟩ (by kernel_rfl) rfl
  (fun f fn hf hfn => by
    obtain rfl : f = 4 := Option.some.inj ((show Tryz.prog.funcNamed "charterhouse/charterhouselaw25.FileNames" = some 4 by kernel_rfl).symm.trans hf) |>.symm
    obtain rfl : fn = Tryz.f4 := (Option.some.inj (Tryz.func4.symm.trans hfn)).symm
    exact ⟨by kernel_rfl, fun j t ht => by
     have hp : Tryz.f4.params.toList = [] := congrArg Array.toList Tryz.params4
     have hm : t ∈ [] := by rw [<- hp]; exact Array.mem_toList_iff.2 (Array.mem_of_getElem? ht)
     have hall : ([].all fun u => !Tryz.prog.wantsStandIn u) = true := by kernel_rfl
     exact (show Tryz.prog.wantsStandIn t = false by simpa using Zjk.1 hall t hm)⟩)
  (by kernel_rfl)
#print axioms fileNames_holds
end
end Go.Proofs.YtafhcdagifopeaaGreatDoor
