/- This file holds in one the texts CtU; each says at its head what it proves. -/
import Derived.Test.YtpdimkonjmoadaaGreatDoorT34
import Derived.Test.YtpdimkonjmoadaaGreatDoorT35
import Derived.Test.YtpdimkonjmoadaaGreatDoorT36
import Derived.JoinedCond
import Derived.Deep.DeepHandedRow
import Derived.Test.YtpdimkonjmoadaaGreatDoorCards
import Derived.Test.YtpdimkonjmoadaaGreatDoorTie
import Derived.ProofKit
import Derived.LaidMore
import Derived.Lay
import Derived.OpenShut
import Derived.SevenTiedAt
import Derived.Stop.Joined
set_option linter.unusedSimpArgs false
set_option linter.unusedVariables false
namespace Go.Proofs.YtpdimkonjmoadaaGreatDoor
section
open Go.AM Go.ChangeShapes Go.WideShapes Go.ChangeAt Go.RowKit
theorem Qqx:ownKnob Tp.godebug=none:=by kernel_rfl
set_option maxRecDepth 100000 in
theorem Qlt(os:Os){H:Type}(enc:TypeId×Value->H):∃Qg4,DataW.whole enc Tp ((World.laidAll Tp os Rows.pairTurnsUptoRow.laid).forCall (fun _ _=>0) ⟨#[],#[.agg #[.slice none 0 0,.slice none 0 0,.slice none 0 0,.int .i64 0],.int .i64 0,.int .i64 0],[]⟩).memory Tryz.f3.params.toList Rows.pairTurnsSpec.vars false (#[.agg #[.slice none 0 0,.slice none 0 0,.slice none 0 0,.int .i64 0],.int .i64 0,.int .i64 0]:Array Value).toList 8=some ([.agg [.nil,.nil,.agg [.nil,.lit (.int .i64 0)]],.lit (.int .i64 0),.lit (.int .i64 0)],[],Qg4):=
 ⟨[],by kernel_rfl⟩
set_option maxRecDepth 100000 in
theorem Qk7(os:Os)(started:os.Started)(H:Type)(enc:TypeId×Value->H)(F:Stop.Interp):
 ReturnsInHanded {} Tryz.checked os 3 .any ((Rows.OpenSpec.upto Rows.pairTurnsSpec).preRow enc Tp Tryz.f3 Rows.pairTurnsUptoRow.domain false Rows.pairTurnsUptoRow.laid) (((Rows.OpenSpec.upto Rows.pairTurnsSpec).at F).post enc Tp Tryz.f3 false true false false):=by
 obtain⟨Qg4,hx⟩:=Qlt os enc;have hok:Input.okWideB Tp ((World.laidAll Tp os Rows.pairTurnsUptoRow.laid).forCall (fun _ _=>0) ⟨#[],#[.agg #[.slice none 0 0,.slice none 0 0,.slice none 0 0,.int .i64 0],.int .i64 0,.int .i64 0],[]⟩) 3 ⟨#[],#[.agg #[.slice none 0 0,.slice none 0 0,.slice none 0 0,.int .i64 0],.int .i64 0,.int .i64 0],[]⟩=true:=by kernel_rfl
 refine returnsInHanded_of_row (C:=Tryz.checked) (s:=Rows.OpenSpec.upto Rows.pairTurnsSpec) Qqx started (by kernel_rfl) Tryz.func3
  ⟨World.laidAll Tp os Rows.pairTurnsUptoRow.laid,fun _ _=>0,⟨#[],#[.agg #[.slice none 0 0,.slice none 0 0,.slice none 0 0,.int .i64 0],.int .i64 0,.int .i64 0],[]⟩,World.laidAll_os _ _ _,World.shaped_of_ZipB (by kernel_rfl) (by kernel_rfl),(Input.okWide_of_okWideB (base:=0) hok).1,(Input.okWide_of_okWideB hok).2,
    OpenSpec.preRow_of_cond 8 hx (by kernel_rfl) (fun k hk=>by cases hk;kernel_rfl) (by kernel_rfl) (by rw[MakeChecks.laidMetH_plain _ _ _ (by kernel_rfl)];exact laidMet_laidAll _ (by kernel_rfl) (by kernel_rfl)),by
    simp only[Assume.holds]
    exact⟨by simp,by simp,fun _=>Modest.zero,by simp,by simp⟩⟩ ?_
 intro W base args ds gs before hval hW _ hk _ _ _ _;have hk' :=hk _ rfl;exact Qtd (ts:=[27,3,3]) (tb:=4) (book:=[27,22,64,58,55,52,23,5,53,134,3,56,60,34,61,82,80,62,84,25]) okR (by kernel_rfl) (congrArg Array.toList Tryz.params3) (by kernel_rfl) Tryz.underlying4 (by kernel_rfl) (by kernel_rfl) (s:=Rows.pairTurnsSpec) rfl
  (fun ds hd=>by
    match ds,hd with
    |[d0,d1,d2],_=>exact⟨rfl,rfl,rfl⟩)
  Q6e Qzg hval hW (Q0h hk')
set_option maxRecDepth 100000 in
theorem Qp3:Rows.PairTurnsUptoSaid:=
 OpenClaim.holds_of_cond 3 Tryz.f3 rfl rfl rfl rfl rfl rfl rfl ⟨rfl,rfl,rfl,rfl,rfl⟩ rfl rfl rfl rfl rfl (by kernel_rfl) Tryz.func3 (Q5l Qr8 Qsc Qsg Qst Qs5 Qta Qsk Qtc Qrx Qop Qpp Qo4 Qpc Qrf Qq5 Qqf Qp1 Qrn Qom Qrh Qqo Qo7 Qpn Qpu Qph Qq3 Qq6 Qqq Qru Qpw Qqw Qqm)
  (of_decide_eq_true (by kernel_rfl)) (by unfold Func.isWrapper;first|(rw[if_pos (by decide+kernel)];kernel_rfl)|(rw[if_neg (by decide+kernel)];exact⟨rfl,rfl⟩))
  (fun os started H enc _ F=>by rw[OpenClaim.pre_eq_preRow];exact Qk7 os started H enc F)
theorem pairTurnsU_holds:Rows.PairTurnsUptoCardSaid:=
 Claim7.holds_tied_plain_at .later [] [.data,.pinned] true (true, "3d35e19fd35679d13841df837fec31f6aad41f7de13e9b399511f492a3a692fd") true
  Qp3 (fun _ h=>by cases h) Qr4 (fun _ h=>by cases h) pairTurnsUpto_row_tie rfl ⟨rfl,rfl⟩ Qs2 rfl
  (fun f fn hf hfn=>by
    obtain rfl:f=3:=Option.some.inj (Qs8.symm.trans hf)|>.symm;obtain rfl:fn=Tryz.f3:=(Option.some.inj (Tryz.func3.symm.trans hfn)).symm;exact⟨Qr0,fun j t ht=>by
     have hp:Tryz.f3.params.toList=[27,3,3]:=congrArg Array.toList Tryz.params3;have hm:t∈[27,3,3]:=by rw[<-hp];exact Array.mem_toList_iff.2 (Zsj ht)
     have hall:([27,3,3].all fun u=>!Tp.wantsStandIn u)=true:=by kernel_rfl
     exact(show Tp.wantsStandIn t=false by simpa using Zqt.1 hall t hm)⟩)
  Qsv
#print axioms pairTurnsU_holds
end
end Go.Proofs.YtpdimkonjmoadaaGreatDoor
