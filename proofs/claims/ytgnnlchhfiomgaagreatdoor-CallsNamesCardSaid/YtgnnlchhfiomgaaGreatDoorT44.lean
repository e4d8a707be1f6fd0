/- This file holds in one the texts Cc; each says at its head what it proves. -/
import Derived.Test.YtgnnlchhfiomgaaGreatDoorT42
import Derived.Test.YtgnnlchhfiomgaaGreatDoorT43
import Derived.Test.YtgnnlchhfiomgaaGreatDoorT45
import Derived.Test.YtgnnlchhfiomgaaGreatDoorCards
import Derived.Test.YtgnnlchhfiomgaaGreatDoorTie
import Derived.ProofKit
import Derived.LaidMore
import Derived.Lay
import Derived.OpenShut
import Derived.SevenTiedAt
import Derived.Stop.Joined
set_option linter.unusedSimpArgs false
set_option linter.unusedVariables false
namespace Go.Proofs.YtgnnlchhfiomgaaGreatDoor
section
open Go.AM Go.ChangeShapes Go.WideShapes Go.ChangeAt Go.RowKit
theorem Qm5 : ownKnob Tryz.prog.godebug = none := by kernel_rfl
set_option maxRecDepth 100000 in
theorem Qi0 (os : Os) (started : os.Started) (H : Type) (enc : TypeId × Value -> H) :
 ReturnsInHanded {} Tryz.checked os 3 .any (fun w args => (Rows.callsNamesSpec.pre enc Tryz.prog Tryz.f3 [] false w args /\ laidMetH Tryz.prog Rows.callsNamesRow.laid w) /\ sizedMet enc Tryz.prog Tryz.f3 (OpenSpec.ofChange Rows.callsNamesSpec) false w args)
  (Rows.callsNamesSpec.post enc Tryz.prog Tryz.f3 false true false false) := by
 refine returnsInHanded_of_change_and (C := Tryz.checked) (X := fun w _ => laidMetH Tryz.prog Rows.callsNamesRow.laid w) (fun _ _ _ hh h => h.of_heap hh) Qm5 started (by kernel_rfl) Tryz.func3
  (ChangeSpec.witness_shaped (enc := enc) (C := Tryz.checked) (os := os) (X := fun w _ => laidMetH Tryz.prog Rows.callsNamesRow.laid w) false (World.laidAll Tryz.prog os Rows.callsNamesRow.laid) #[] 8 (World.laidAll_os _ _ _)
    (World.shaped_of_ZipB (by kernel_rfl) (by kernel_rfl)) (by kernel_rfl) (by kernel_rfl) (by kernel_rfl)
    (by rw [MakeChecks.laidMetH_plain _ _ _ (by kernel_rfl)]; exact laidMet_laidAll _ (by kernel_rfl) (by kernel_rfl))) ?_
 intro W base args ds gs before hval hW _ _ _ _
 exact BM.law_contract (ts := []) (tb := 4) (book := [3]) okL (by kernel_rfl) (congrArg Array.toList Tryz.params3) (by kernel_rfl) Tryz.underlying4 (by kernel_rfl) (by kernel_rfl) (s := Rows.callsNamesSpec) rfl
  (fun ds hd => by
    match ds, hd with
    | [], _ => exact ⟨rfl, rfl, rfl⟩)
  names_law hval hW
theorem Qol : Rows.CallsNamesSaid :=
 OpenClaim.holds_of_wide 3 Tryz.f3 rfl rfl rfl rfl rfl rfl rfl ⟨rfl, rfl, rfl, rfl, rfl⟩ rfl rfl rfl rfl rfl (by kernel_rfl) Tryz.func3 (Q0w Qpn Qot Qpc Qpi Qon Qo9 Qox Qpj Qpg Qn0 Qmo Qlq Qoj Qmu Qng Qlt Qmx Qmd Qn4 Qob Qne Qnu Qlz Ql1 Qm6 Qog Qmj Qmz Qms Qn6 Qlx Qny)
  (of_decide_eq_true (by kernel_rfl)) (by unfold Func.isWrapper; first | (rw [if_pos (by decide +kernel)]; kernel_rfl) | (rw [if_neg (by decide +kernel)]; exact ⟨rfl, rfl⟩))
  (fun os started H enc _ => Qi0 os started H enc)
theorem callsNames_holds : Rows.CallsNamesCardSaid :=
 Claim7.holds_tied_plain_at .later [] [.data, .pinned] true (true, "3a385ab0e0decc68f70a81995295ba061ed894ac36a5b6a070e06cba5732618a") true
  Qol (fun _ h => by cases h) callsNames_k1 (fun _ h => by cases h) callsNames_row_tie rfl ⟨rfl, rfl⟩ callsNames_k2 rfl
  (fun f fn hf hfn => by
    obtain rfl : f = 3 := Option.some.inj (callsNames_k3.symm.trans hf) |>.symm
    obtain rfl : fn = Tryz.f3 := (Option.some.inj (Tryz.func3.symm.trans hfn)).symm
    exact ⟨callsNames_k4, fun j t ht => by
     have hp : Tryz.f3.params.toList = [] := congrArg Array.toList Tryz.params3
     have hm : t ∈ [] := by rw [<- hp]; exact Array.mem_toList_iff.2 (Array.mem_of_getElem? ht)
     have hall : ([].all fun u => !Tryz.prog.wantsStandIn u) = true := by kernel_rfl
     exact (show Tryz.prog.wantsStandIn t = false by simpa using Zkj.1 hall t hm)⟩)
  callsNames_k5
#print axioms callsNames_holds
end
end Go.Proofs.YtgnnlchhfiomgaaGreatDoor
