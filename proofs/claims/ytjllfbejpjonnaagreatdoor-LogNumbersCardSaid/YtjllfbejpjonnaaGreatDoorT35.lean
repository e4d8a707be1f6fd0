/- This file holds in one the texts Cn; each says at its head what it proves. -/
import Derived.Test.YtjllfbejpjonnaaGreatDoorT33
import Derived.Test.YtjllfbejpjonnaaGreatDoorT34
import Derived.Test.YtjllfbejpjonnaaGreatDoorCards
import Derived.Test.YtjllfbejpjonnaaGreatDoorTie
import Derived.ProofKit
import Derived.LaidMore
import Derived.Lay
import Derived.OpenShut
import Derived.SevenTiedAt
import Derived.Stop.Joined
set_option linter.unusedSimpArgs false
set_option linter.unusedVariables false
namespace Go.Proofs.YtjllfbejpjonnaaGreatDoor
section
open Go.AM Go.ChangeShapes Go.WideShapes Go.ChangeAt Go.RowKit
theorem Qqe:ownKnob Tp.godebug=none:=by kernel_rfl
set_option maxRecDepth 100000 in
theorem Qlj(os:Os)(started:os.Started)(H:Type)(enc:TypeId×Value->H):
 ReturnsInHanded {} Tryz.checked os 3 .any (fun w args=>(Rows.logNumbersSpec.pre enc Tp Tryz.f3 [] false w args/\laidMetH Tp Rows.logNumbersRow.laid w)/\sizedMet enc Tp Tryz.f3 (OpenSpec.ofChange Rows.logNumbersSpec) false w args)
  (Rows.logNumbersSpec.post enc Tp Tryz.f3 false true false false):=by
 refine returnsInHanded_of_change_and (C:=Tryz.checked) (X:=fun w _=>laidMetH Tp Rows.logNumbersRow.laid w) (fun _ _ _ hh h=>h.of_heap hh) Qqe started (by kernel_rfl) Tryz.func3
  (ChangeSpec.witness_shaped (enc:=enc) (C:=Tryz.checked) (os:=os) (X:=fun w _=>laidMetH Tp Rows.logNumbersRow.laid w) false (World.laidAll Tp os Rows.logNumbersRow.laid) #[.agg #[.slice none 0 0,.slice none 0 0,.slice none 0 0,.int .u32 0,.int .u32 0,.int .u32 0,.int .i64 0,.int .u32 0,.int .u32 0,.int .u32 0,.int .u32 0,.slice none 0 0,.slice none 0 0,.slice none 0 0,.slice none 0 0,.slice none 0 0,.int .i64 0,.int .i64 0,.int .u32 0],.int .i64 0] 8 (World.laidAll_os _ _ _)
    (World.shaped_of_ZipB (by kernel_rfl) (by kernel_rfl)) (by kernel_rfl) (by kernel_rfl) (by kernel_rfl)
    (by rw[MakeChecks.laidMetH_plain _ _ _ (by kernel_rfl)];exact laidMet_laidAll _ (by kernel_rfl) (by kernel_rfl))) ?_
 intro W base args ds gs before hval hW _ _ _ _;exact Qv4 (ts:=[36,3]) (tb:=4) (book:=[36,29,25,22,26,5,23,101,3,27,31,32,33,52,50,34,43]) okR (by kernel_rfl) (congrArg Array.toList Tryz.params3) (by kernel_rfl) Tryz.underlying4 (by kernel_rfl) (by kernel_rfl) (s:=Rows.logNumbersSpec) rfl
  (fun ds hd=>by
    match ds,hd with
    |[d0,d1],_=>exact⟨rfl,rfl,rfl⟩)
  Qwm hval hW
theorem Qpc:Rows.LogNumbersSaid:=
 OpenClaim.holds_of_wide 3 Tryz.f3 rfl rfl rfl rfl rfl rfl rfl ⟨rfl,rfl,rfl,rfl,rfl⟩ rfl rfl rfl rfl rfl (by kernel_rfl) Tryz.func3 (Q6p Qsu Qr5 Qsn Qsw Qss Qr8 Qr3 Qsk Qrw Qqr Qou Qpt Qos Qp1 Qpl Qpa Qo8 Qrl Qo5 Qoj Qpw Qrj Qoq Qo3 Qro Qqb Qre Qo2 Qp0 Qq2 Qqy Qrg)
  (of_decide_eq_true (by kernel_rfl)) (by unfold Func.isWrapper;first|(rw[if_pos (by decide+kernel)];kernel_rfl)|(rw[if_neg (by decide+kernel)];exact⟨rfl,rfl⟩))
  (fun os started H enc _=>Qlj os started H enc)
theorem logNumbers_holds:Rows.LogNumbersCardSaid:=
 Claim7.holds_tied_plain_at .later [] [.data,.pinned] true (true, "01087c2920ad8516c929e33694fbd89e82908f7231b83d26641e4aff1bf62997") true
  Qpc (fun _ h=>by cases h) Qsq (fun _ h=>by cases h) logNumbers_row_tie rfl ⟨rfl,rfl⟩ Qsv rfl
  (fun f fn hf hfn=>by
    obtain rfl:f=3:=Option.some.inj (Qsg.symm.trans hf)|>.symm;obtain rfl:fn=Tryz.f3:=(Option.some.inj (Tryz.func3.symm.trans hfn)).symm;exact⟨Qr4,fun j t ht=>by
     have hp:Tryz.f3.params.toList=[36,3]:=congrArg Array.toList Tryz.params3;have hm:t∈[36,3]:=by rw[<-hp];exact Array.mem_toList_iff.2 (Zq2 ht)
     have hall:([36,3].all fun u=>!Tp.wantsStandIn u)=true:=by kernel_rfl
     exact(show Tp.wantsStandIn t=false by simpa using Zor.1 hall t hm)⟩)
  Qse
#print axioms logNumbers_holds
end
end Go.Proofs.YtjllfbejpjonnaaGreatDoor
