/- This file holds in one the texts Cnj; each says at its head what it proves. -/
import Derived.Test.YtjllfbejpjonnaaGreatDoorT20
import Derived.Test.YtjllfbejpjonnaaGreatDoorCards
import Derived.Test.YtjllfbejpjonnaaGreatDoorTie
import Derived.KernelRfl
set_option linter.unusedSimpArgs false
set_option linter.unusedVariables false
namespace Go.Proofs.YtjllfbejpjonnaaGreatDoor
section
theorem Qsu:jf1 Tryz.prog 3 Tryz.f3 Rows.logNumbersSpec Rows.logNumbersRow=true:=by kernel_rfl
theorem Qr5:jf2 Tryz.prog 3 Tryz.f3 Rows.logNumbersSpec Rows.logNumbersRow=true:=by kernel_rfl
theorem Qsn:jf3 Tryz.prog 3 Tryz.f3 Rows.logNumbersSpec Rows.logNumbersRow=true:=by kernel_rfl
theorem Qsw:jf4 Tryz.prog 3 Tryz.f3 Rows.logNumbersSpec Rows.logNumbersRow=true:=by kernel_rfl
theorem Qss:jf5 Tryz.prog 3 Tryz.f3 Rows.logNumbersSpec Rows.logNumbersRow=true:=by kernel_rfl
theorem Qr8:jf6 Tryz.prog 3 Tryz.f3 Rows.logNumbersSpec Rows.logNumbersRow=true:=by kernel_rfl
theorem Qr3:jf7 Tryz.prog 3 Tryz.f3 Rows.logNumbersSpec Rows.logNumbersRow=true:=by kernel_rfl
theorem Qsk:jf8 Tryz.prog 3 Tryz.f3 Rows.logNumbersSpec Rows.logNumbersRow=true:=by kernel_rfl
theorem Qrw:jf9 Tryz.prog 3 Tryz.f3 Rows.logNumbersSpec Rows.logNumbersRow=true:=by kernel_rfl
theorem Qqr:jf10 Tryz.prog 3 Tryz.f3 Rows.logNumbersSpec Rows.logNumbersRow=true:=by kernel_rfl
theorem Qou:jf11 Tryz.prog 3 Tryz.f3 Rows.logNumbersSpec Rows.logNumbersRow=true:=by kernel_rfl
theorem Qpt:jf12 Tryz.prog 3 Tryz.f3 Rows.logNumbersSpec Rows.logNumbersRow=true:=by kernel_rfl
theorem Qos:jf13 Tryz.prog 3 Tryz.f3 Rows.logNumbersSpec Rows.logNumbersRow=true:=by kernel_rfl
theorem Qp1:jf14 Tryz.prog 3 Tryz.f3 Rows.logNumbersSpec Rows.logNumbersRow=true:=by kernel_rfl
theorem Qpl:jf15 Tryz.prog 3 Tryz.f3 Rows.logNumbersSpec Rows.logNumbersRow=true:=by kernel_rfl
theorem Qpa:jf16 Tryz.prog 3 Tryz.f3 Rows.logNumbersSpec Rows.logNumbersRow=true:=by kernel_rfl
theorem Qo8:jf17 Tryz.prog 3 Tryz.f3 Rows.logNumbersSpec Rows.logNumbersRow=true:=by kernel_rfl
theorem Qrl:jf18 Tryz.prog 3 Tryz.f3 Rows.logNumbersSpec Rows.logNumbersRow=true:=by kernel_rfl
theorem Qo5:jf19 Tryz.prog 3 Tryz.f3 Rows.logNumbersSpec Rows.logNumbersRow=true:=by kernel_rfl
theorem Qoj:jf20 Tryz.prog 3 Tryz.f3 Rows.logNumbersSpec Rows.logNumbersRow=true:=by kernel_rfl
theorem Qpw:jf21 Tryz.prog 3 Tryz.f3 Rows.logNumbersSpec Rows.logNumbersRow=true:=by kernel_rfl
theorem Qrj:jf22 Tryz.prog 3 Tryz.f3 Rows.logNumbersSpec Rows.logNumbersRow=true:=by kernel_rfl
theorem Qoq:jf23 Tryz.prog 3 Tryz.f3 Rows.logNumbersSpec Rows.logNumbersRow=true:=by kernel_rfl
theorem Qo3:jf24 Tryz.prog 3 Tryz.f3 Rows.logNumbersSpec Rows.logNumbersRow=true:=by kernel_rfl
theorem Qro:jf25 Tryz.prog 3 Tryz.f3 Rows.logNumbersSpec Rows.logNumbersRow=true:=by kernel_rfl
theorem Qqb:jf26 Tryz.prog 3 Tryz.f3 Rows.logNumbersSpec Rows.logNumbersRow=true:=by kernel_rfl
theorem Qre:jf27 Tryz.prog 3 Tryz.f3 Rows.logNumbersSpec Rows.logNumbersRow=true:=by kernel_rfl
theorem Qo2:jf28 Tryz.prog 3 Tryz.f3 Rows.logNumbersSpec Rows.logNumbersRow=true:=by kernel_rfl
theorem Qp0:jf29 Tryz.prog 3 Tryz.f3 Rows.logNumbersSpec Rows.logNumbersRow=true:=by kernel_rfl
theorem Qq2:jf30 Tryz.prog 3 Tryz.f3 Rows.logNumbersSpec Rows.logNumbersRow=true:=by kernel_rfl
theorem Qqy:jf31 Tryz.prog 3 Tryz.f3 Rows.logNumbersSpec Rows.logNumbersRow=true:=by kernel_rfl
theorem Qrg:jf32 Tryz.prog 3 Tryz.f3 Rows.logNumbersSpec Rows.logNumbersRow=true:=by kernel_rfl
def gG(F:Func):Bool:=!F.goes
theorem Zd3{P:Program}{c:OpenClaim}(h:P.funcs.all gG=true)(hs:c.start= .entering):false=c.goesBy P:=by
 have e1:∀F∈P.funcs,F.goes=false:=fun F hF=>by have:=Array.all_eq_true_iff_forall_mem.1 h F hF;simpa [gG] using this
 have g0:∀f,P.goes f=false:=fun f=>by
  unfold Program.goes;rw[Bool.or_eq_false_iff];constructor
  . rw[List.any_eq_false];intro g _ hg;cases hF:P.funcs[g]? with
    |none=>rw[hF] at hg;cases hg
    |some F=>
     rw[hF] at hg;have:=e1 F (Array.mem_of_getElem? hF);simp only[Option.any_some] at hg;rw[this] at hg;cases hg
  . rw[Bool.and_eq_false_iff];refine .inr ?_;rw[<-Array.any_toList,List.any_eq_false];intro F hF;simp[e1 F (Array.mem_toList_iff.1 hF)]
 unfold OpenClaim.goesBy Program.goesAt Program.goesFrom;rw[hs];cases P.funcNamed c.func with
 |none=>rfl
 |some f=>simp[g0]
theorem Q8r:Tryz.prog.funcs.all gG=true:=by kernel_rfl
theorem Qsq:Rows.logNumbersRow.wfByText (OpenSpec.ofChange Rows.logNumbersSpec)=true:=by kernel_rfl
theorem Qsv:Tryz.prog.mainIs=some (true, "01087c2920ad8516c929e33694fbd89e82908f7231b83d26641e4aff1bf62997".toList):=by kernel_rfl
theorem Qsg:Tryz.prog.funcNamed "charterhouse/charterhouselaw18.LogNumbers" =some 3:=by kernel_rfl
theorem Qr4:true=Tryz.prog.looks []:=by kernel_rfl
theorem Qse:false=Rows.logNumbersRow.goesBy Tryz.prog:=Zd3 Q8r rfl
end
end Go.Proofs.YtjllfbejpjonnaaGreatDoor
