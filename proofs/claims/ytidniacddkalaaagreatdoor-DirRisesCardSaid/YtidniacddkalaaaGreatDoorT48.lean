/- DirRises: from what the abstract machine answers to the given card: true, whatever the input. Conditions: those of the given row and card, no other. -/
import Derived.Test.YtidniacddkalaaaGreatDoorT46
import Derived.Test.YtidniacddkalaaaGreatDoorT47
import Derived.Test.YtidniacddkalaaaGreatDoorCards
import Derived.Test.YtidniacddkalaaaGreatDoorTie
import Derived.ProofKit
import Derived.LaidMore
import Derived.Lay
import Derived.OpenShut
import Derived.SevenTiedAt
import Derived.Stop.Joined
set_option linter.unusedSimpArgs false
set_option linter.unusedVariables false
namespace Go.Proofs.YtidniacddkalaaaGreatDoor
section
open Go.AM Go.ChangeShapes Go.WideShapes Go.ChangeAt Go.RowKit
theorem Qvq:ownKnob Tryz.prog.godebug=none:=by kernel_rfl
set_option maxRecDepth 100000 in
theorem Qnv(os:Os)(started:os.Started)(H:Type)(enc:TypeId×Value->H):
 ReturnsInHanded {} Tryz.checked os 3 .any (fun w args=>(Rows.dirRisesSpec.pre enc Tryz.prog Tryz.f3 [] false w args/\laidMetH Tryz.prog Rows.dirRisesRow.laid w)/\sizedMet enc Tryz.prog Tryz.f3 (OpenSpec.ofChange Rows.dirRisesSpec) false w args)
  (Rows.dirRisesSpec.post enc Tryz.prog Tryz.f3 false true false false):=by
 refine returnsInHanded_of_change_and (C:=Tryz.checked) (X:=fun w _=>laidMetH Tryz.prog Rows.dirRisesRow.laid w) (fun _ _ _ hh h=>h.of_heap hh) Qvq started (by kernel_rfl) Tryz.func3
  (ChangeSpec.witness_shaped (enc:=enc) (C:=Tryz.checked) (os:=os) (X:=fun w _=>laidMetH Tryz.prog Rows.dirRisesRow.laid w) false (World.laidAll Tryz.prog os Rows.dirRisesRow.laid) #[.agg #[.slice none 0 0,.slice none 0 0,.slice none 0 0,.int .u32 0,.int .u32 0,.int .u32 0,.int .i64 0,.int .u32 0,.int .u32 0,.int .u32 0,.int .u32 0,.slice none 0 0,.slice none 0 0,.slice none 0 0,.slice none 0 0,.slice none 0 0,.int .i64 0,.int .i64 0,.int .u32 0],.int .i64 0,.string ByteArray.empty] 8 (World.laidAll_os _ _ _)
    (World.shaped_of_ZipB (by kernel_rfl) (by kernel_rfl)) (by kernel_rfl) (by kernel_rfl) (by kernel_rfl)
    (by rw[MakeChecks.laidMetH_plain _ _ _ (by kernel_rfl)];exact laidMet_laidAll _ (by kernel_rfl) (by kernel_rfl))) ?_
 intro W base args ds gs before hval hW _ _ _ _;exact Qtj (ts:=[36,3,9]) (tb:=4) (book:=[36,29,25,22,26,5,23,112,3,27,31,32,33,57,55,34,59,9]) okR (by kernel_rfl) (congrArg Array.toList Tryz.params3) (by kernel_rfl) Tryz.underlying4 (by kernel_rfl) (by kernel_rfl) (s:=Rows.dirRisesSpec) rfl
  (fun ds hd=>by
    match ds,hd with
    |[d0,d1,d2],_=>exact⟨rfl,rfl,rfl⟩)
  Q26 hval hW
theorem Qt8:Rows.DirRisesSaid:=
 OpenClaim.holds_of_wide 3 Tryz.f3 rfl rfl rfl rfl rfl rfl rfl ⟨rfl,rfl,rfl,rfl,rfl⟩ rfl rfl rfl rfl rfl (by kernel_rfl) Tryz.func3 (Q51 Qx9 Qzx Qxh Qzg Qxl Qxc Qxr Qyu Qxp Qtp Qur Qwa Qv3 Qtu Qtg Quc Qu3 Qta Qv6 Qte Qt5 Qv2 Qut Qvz Qtx Qtm Quz Qt3 Qvs Qvi Qv9 Quk)
  (of_decide_eq_true (by kernel_rfl)) (by unfold Func.isWrapper;first|(rw[if_pos (by decide+kernel)];kernel_rfl)|(rw[if_neg (by decide+kernel)];exact⟨rfl,rfl⟩))
  (fun os started H enc _=>Qnv os started H enc)
theorem dirRises_holds:Rows.DirRisesCardSaid:=
 Claim7.holds_tied_plain_at .later [] [.data,.pinned] true (true, "662d13c90b86acd0366c191c29cb6f3a429884f32995622e16066053c46808c6") false
  Qt8 (fun _ h=>by cases h) Q0a (fun _ h=>by cases h) dirRises_row_tie rfl ⟨rfl,rfl⟩ Qy1 rfl
  (fun f fn hf hfn=>by
    obtain rfl:f=3:=Option.some.inj (Qzj.symm.trans hf)|>.symm;obtain rfl:fn=Tryz.f3:=(Option.some.inj (Tryz.func3.symm.trans hfn)).symm;exact⟨Qw3,fun j t ht=>by
     have hp:Tryz.f3.params.toList=[36,3,9]:=congrArg Array.toList Tryz.params3;have hm:t∈[36,3,9]:=by rw[<-hp];exact Array.mem_toList_iff.2 (Zt9 ht)
     have hall:([36,3,9].all fun u=>!Tryz.prog.wantsStandIn u)=true:=by kernel_rfl
     exact(show Tryz.prog.wantsStandIn t=false by simpa using Zr2.1 hall t hm)⟩)
  Qxj
#print axioms dirRises_holds
end
end Go.Proofs.YtidniacddkalaaaGreatDoor
