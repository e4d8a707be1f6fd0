/- This file holds in one the texts CtUj; each says at its head what it proves. -/
import Derived.Test.YtpdimkonjmoadaaGreatDoorT19
import Derived.Test.YtpdimkonjmoadaaGreatDoorCards
import Derived.Test.YtpdimkonjmoadaaGreatDoorTie
import Derived.KernelRfl
set_option linter.unusedSimpArgs false
set_option linter.unusedVariables false
namespace Go.Proofs.YtpdimkonjmoadaaGreatDoor
section
theorem Qr8:jf1 Tryz.prog 3 Tryz.f3 Rows.pairTurnsSpec Rows.pairTurnsUptoRow=true:=by kernel_rfl
theorem Qsc:jf2 Tryz.prog 3 Tryz.f3 Rows.pairTurnsSpec Rows.pairTurnsUptoRow=true:=by kernel_rfl
theorem Qsg:jf3 Tryz.prog 3 Tryz.f3 Rows.pairTurnsSpec Rows.pairTurnsUptoRow=true:=by kernel_rfl
theorem Qst:jf4 Tryz.prog 3 Tryz.f3 Rows.pairTurnsSpec Rows.pairTurnsUptoRow=true:=by kernel_rfl
theorem Qs5:jf5 Tryz.prog 3 Tryz.f3 Rows.pairTurnsSpec Rows.pairTurnsUptoRow=true:=by kernel_rfl
theorem Qta:jf6 Tryz.prog 3 Tryz.f3 Rows.pairTurnsSpec Rows.pairTurnsUptoRow=true:=by kernel_rfl
theorem Qsk:jf7 Tryz.prog 3 Tryz.f3 Rows.pairTurnsSpec Rows.pairTurnsUptoRow=true:=by kernel_rfl
theorem Qtc:jf8 Tryz.prog 3 Tryz.f3 Rows.pairTurnsSpec Rows.pairTurnsUptoRow=true:=by kernel_rfl
theorem Qrx:jf9 Tryz.prog 3 Tryz.f3 Rows.pairTurnsSpec Rows.pairTurnsUptoRow=true:=by kernel_rfl
theorem Qop:jf10 Tryz.prog 3 Tryz.f3 Rows.pairTurnsSpec Rows.pairTurnsUptoRow=true:=by kernel_rfl
theorem Qpp:jf11 Tryz.prog 3 Tryz.f3 Rows.pairTurnsSpec Rows.pairTurnsUptoRow=true:=by kernel_rfl
theorem Qo4:jf12 Tryz.prog 3 Tryz.f3 Rows.pairTurnsSpec Rows.pairTurnsUptoRow=true:=by kernel_rfl
theorem Qpc:jf13 Tryz.prog 3 Tryz.f3 Rows.pairTurnsSpec Rows.pairTurnsUptoRow=true:=by kernel_rfl
theorem Qrf:jf14 Tryz.prog 3 Tryz.f3 Rows.pairTurnsSpec Rows.pairTurnsUptoRow=true:=by kernel_rfl
theorem Qq5:jf15 Tryz.prog 3 Tryz.f3 Rows.pairTurnsSpec Rows.pairTurnsUptoRow=true:=by kernel_rfl
theorem Qqf:jf16 Tryz.prog 3 Tryz.f3 Rows.pairTurnsSpec Rows.pairTurnsUptoRow=true:=by kernel_rfl
theorem Qp1:jf17 Tryz.prog 3 Tryz.f3 Rows.pairTurnsSpec Rows.pairTurnsUptoRow=true:=by kernel_rfl
theorem Qrn:jf18 Tryz.prog 3 Tryz.f3 Rows.pairTurnsSpec Rows.pairTurnsUptoRow=true:=by kernel_rfl
theorem Qom:jf19 Tryz.prog 3 Tryz.f3 Rows.pairTurnsSpec Rows.pairTurnsUptoRow=true:=by kernel_rfl
theorem Qrh:jf20 Tryz.prog 3 Tryz.f3 Rows.pairTurnsSpec Rows.pairTurnsUptoRow=true:=by kernel_rfl
theorem Qqo:jf21 Tryz.prog 3 Tryz.f3 Rows.pairTurnsSpec Rows.pairTurnsUptoRow=true:=by kernel_rfl
theorem Qo7:jf22 Tryz.prog 3 Tryz.f3 Rows.pairTurnsSpec Rows.pairTurnsUptoRow=true:=by kernel_rfl
theorem Qpn:jf23 Tryz.prog 3 Tryz.f3 Rows.pairTurnsSpec Rows.pairTurnsUptoRow=true:=by kernel_rfl
theorem Qpu:jf24 Tryz.prog 3 Tryz.f3 Rows.pairTurnsSpec Rows.pairTurnsUptoRow=true:=by kernel_rfl
theorem Qph:jf25 Tryz.prog 3 Tryz.f3 Rows.pairTurnsSpec Rows.pairTurnsUptoRow=true:=by kernel_rfl
theorem Qq3:jf26 Tryz.prog 3 Tryz.f3 Rows.pairTurnsSpec Rows.pairTurnsUptoRow=true:=by kernel_rfl
theorem Qq6:jf27 Tryz.prog 3 Tryz.f3 Rows.pairTurnsSpec Rows.pairTurnsUptoRow=true:=by kernel_rfl
theorem Qqq:jf28 Tryz.prog 3 Tryz.f3 Rows.pairTurnsSpec Rows.pairTurnsUptoRow=true:=by kernel_rfl
theorem Qru:jf29 Tryz.prog 3 Tryz.f3 Rows.pairTurnsSpec Rows.pairTurnsUptoRow=true:=by kernel_rfl
theorem Qpw:jf30 Tryz.prog 3 Tryz.f3 Rows.pairTurnsSpec Rows.pairTurnsUptoRow=true:=by kernel_rfl
theorem Qqw:jf31 Tryz.prog 3 Tryz.f3 Rows.pairTurnsSpec Rows.pairTurnsUptoRow=true:=by kernel_rfl
theorem Qqm:jf32 Tryz.prog 3 Tryz.f3 Rows.pairTurnsSpec Rows.pairTurnsUptoRow=true:=by kernel_rfl
def gGU(F:Func):Bool:=!F.goes
theorem Q8y{P:Program}{c:OpenClaim}(h:P.funcs.all gGU=true)(hs:c.start= .entering):false=c.goesBy P:=by
 have e1:∀F∈P.funcs,F.goes=false:=fun F hF=>by have:=Array.all_eq_true_iff_forall_mem.1 h F hF;simpa [gGU] using this
 have g0:∀f,P.goes f=false:=fun f=>by
  unfold Program.goes;rw[Bool.or_eq_false_iff];constructor
  . rw[List.any_eq_false];intro g _ hg;cases hF:P.funcs[g]? with
    |none=>rw[hF] at hg;cases hg
    |some F=>
     rw[hF] at hg;have:=e1 F (Array.mem_of_getElem? hF);simp only[Option.any_some] at hg;rw[this] at hg;cases hg
  . rw[Bool.and_eq_false_iff];refine .inr ?_;rw[<-Array.any_toList,List.any_eq_false];intro F hF;simp[e1 F (Array.mem_toList_iff.1 hF)]
 unfold OpenClaim.goesBy Program.goesAt Program.goesFrom;rw[hs];cases P.funcNamed c.func with
 |none=>rfl
 |some f=>simp[g0]
theorem Q5q:Tryz.prog.funcs.all gGU=true:=by kernel_rfl
theorem Qr4:Rows.pairTurnsUptoRow.wfByText (Rows.OpenSpec.upto Rows.pairTurnsSpec)=true:=by kernel_rfl
theorem Qs2:Tryz.prog.mainIs=some (true, "3d35e19fd35679d13841df837fec31f6aad41f7de13e9b399511f492a3a692fd".toList):=by kernel_rfl
theorem Qs8:Tryz.prog.funcNamed "charterhouse/charterhouselaw31.PairTurns" =some 3:=by kernel_rfl
theorem Qr0:true=Tryz.prog.looks []:=by kernel_rfl
theorem Qsv:false=Rows.pairTurnsUptoRow.goesBy Tryz.prog:=Q8y Q5q rfl
end
end Go.Proofs.YtpdimkonjmoadaaGreatDoor
