/- This file holds in one the texts Crj; each says at its head what it proves. -/
import Derived.Test.YtidniacddkalaaaGreatDoorT28
import Derived.Test.YtidniacddkalaaaGreatDoorCards
import Derived.Test.YtidniacddkalaaaGreatDoorTie
import Derived.KernelRfl
set_option linter.unusedSimpArgs false
set_option linter.unusedVariables false
namespace Go.Proofs.YtidniacddkalaaaGreatDoor
section
theorem Qx9:jf1 Tryz.prog 3 Tryz.f3 Rows.dirRisesSpec Rows.dirRisesRow=true:=by kernel_rfl
theorem Qzx:jf2 Tryz.prog 3 Tryz.f3 Rows.dirRisesSpec Rows.dirRisesRow=true:=by kernel_rfl
theorem Qxh:jf3 Tryz.prog 3 Tryz.f3 Rows.dirRisesSpec Rows.dirRisesRow=true:=by kernel_rfl
theorem Qzg:jf4 Tryz.prog 3 Tryz.f3 Rows.dirRisesSpec Rows.dirRisesRow=true:=by kernel_rfl
theorem Qxl:jf5 Tryz.prog 3 Tryz.f3 Rows.dirRisesSpec Rows.dirRisesRow=true:=by kernel_rfl
theorem Qxc:jf6 Tryz.prog 3 Tryz.f3 Rows.dirRisesSpec Rows.dirRisesRow=true:=by kernel_rfl
theorem Qxr:jf7 Tryz.prog 3 Tryz.f3 Rows.dirRisesSpec Rows.dirRisesRow=true:=by kernel_rfl
theorem Qyu:jf8 Tryz.prog 3 Tryz.f3 Rows.dirRisesSpec Rows.dirRisesRow=true:=by kernel_rfl
theorem Qxp:jf9 Tryz.prog 3 Tryz.f3 Rows.dirRisesSpec Rows.dirRisesRow=true:=by kernel_rfl
theorem Qtp:jf10 Tryz.prog 3 Tryz.f3 Rows.dirRisesSpec Rows.dirRisesRow=true:=by kernel_rfl
theorem Qur:jf11 Tryz.prog 3 Tryz.f3 Rows.dirRisesSpec Rows.dirRisesRow=true:=by kernel_rfl
theorem Qwa:jf12 Tryz.prog 3 Tryz.f3 Rows.dirRisesSpec Rows.dirRisesRow=true:=by kernel_rfl
theorem Qv3:jf13 Tryz.prog 3 Tryz.f3 Rows.dirRisesSpec Rows.dirRisesRow=true:=by kernel_rfl
theorem Qtu:jf14 Tryz.prog 3 Tryz.f3 Rows.dirRisesSpec Rows.dirRisesRow=true:=by kernel_rfl
theorem Qtg:jf15 Tryz.prog 3 Tryz.f3 Rows.dirRisesSpec Rows.dirRisesRow=true:=by kernel_rfl
theorem Quc:jf16 Tryz.prog 3 Tryz.f3 Rows.dirRisesSpec Rows.dirRisesRow=true:=by kernel_rfl
theorem Qu3:jf17 Tryz.prog 3 Tryz.f3 Rows.dirRisesSpec Rows.dirRisesRow=true:=by kernel_rfl
theorem Qta:jf18 Tryz.prog 3 Tryz.f3 Rows.dirRisesSpec Rows.dirRisesRow=true:=by kernel_rfl
theorem Qv6:jf19 Tryz.prog 3 Tryz.f3 Rows.dirRisesSpec Rows.dirRisesRow=true:=by kernel_rfl
theorem Qte:jf20 Tryz.prog 3 Tryz.f3 Rows.dirRisesSpec Rows.dirRisesRow=true:=by kernel_rfl
theorem Qt5:jf21 Tryz.prog 3 Tryz.f3 Rows.dirRisesSpec Rows.dirRisesRow=true:=by kernel_rfl
theorem Qv2:jf22 Tryz.prog 3 Tryz.f3 Rows.dirRisesSpec Rows.dirRisesRow=true:=by kernel_rfl
theorem Qut:jf23 Tryz.prog 3 Tryz.f3 Rows.dirRisesSpec Rows.dirRisesRow=true:=by kernel_rfl
theorem Qvz:jf24 Tryz.prog 3 Tryz.f3 Rows.dirRisesSpec Rows.dirRisesRow=true:=by kernel_rfl
theorem Qtx:jf25 Tryz.prog 3 Tryz.f3 Rows.dirRisesSpec Rows.dirRisesRow=true:=by kernel_rfl
theorem Qtm:jf26 Tryz.prog 3 Tryz.f3 Rows.dirRisesSpec Rows.dirRisesRow=true:=by kernel_rfl
theorem Quz:jf27 Tryz.prog 3 Tryz.f3 Rows.dirRisesSpec Rows.dirRisesRow=true:=by kernel_rfl
theorem Qt3:jf28 Tryz.prog 3 Tryz.f3 Rows.dirRisesSpec Rows.dirRisesRow=true:=by kernel_rfl
theorem Qvs:jf29 Tryz.prog 3 Tryz.f3 Rows.dirRisesSpec Rows.dirRisesRow=true:=by kernel_rfl
theorem Qvi:jf30 Tryz.prog 3 Tryz.f3 Rows.dirRisesSpec Rows.dirRisesRow=true:=by kernel_rfl
theorem Qv9:jf31 Tryz.prog 3 Tryz.f3 Rows.dirRisesSpec Rows.dirRisesRow=true:=by kernel_rfl
theorem Quk:jf32 Tryz.prog 3 Tryz.f3 Rows.dirRisesSpec Rows.dirRisesRow=true:=by kernel_rfl
def gG(F:Func):Bool:=!F.goes
theorem Zcy{P:Program}{c:OpenClaim}(h:P.funcs.all gG=true)(hs:c.start= .entering):false=c.goesBy P:=by
 have e1:∀F∈P.funcs,F.goes=false:=fun F hF=>by have:=Array.all_eq_true_iff_forall_mem.1 h F hF;simpa [gG] using this
 have g0:∀f,P.goes f=false:=fun f=>by
  unfold Program.goes;rw[Bool.or_eq_false_iff];constructor
  . rw[List.any_eq_false];intro g _ hg;cases hF:P.funcs[g]? with
    |none=>rw[hF] at hg;cases hg
    |some F=>
     rw[hF] at hg;have:=e1 F (Array.mem_of_getElem? hF);simp only[Option.any_some] at hg;rw[this] at hg;cases hg
  . rw[Bool.and_eq_false_iff];refine .inr ?_;rw[<-Array.any_toList,List.any_eq_false];intro F hF;simp[e1 F (Array.mem_toList_iff.1 hF)]
 unfold OpenClaim.goesBy Program.goesAt Program.goesFrom;rw[hs];cases P.funcNamed c.func with
 |none=>rfl
 |some f=>simp[g0]
theorem Q92:Tryz.prog.funcs.all gG=true:=by kernel_rfl
theorem Q0a:Rows.dirRisesRow.wfByText (OpenSpec.ofChange Rows.dirRisesSpec)=true:=by kernel_rfl
theorem Qy1:Tryz.prog.mainIs=some (true, "662d13c90b86acd0366c191c29cb6f3a429884f32995622e16066053c46808c6".toList):=by kernel_rfl
theorem Qzj:Tryz.prog.funcNamed "charterhouse/charterhouselaw24.DirRises" =some 3:=by kernel_rfl
theorem Qw3:false=Tryz.prog.looks []:=by kernel_rfl
theorem Qxj:false=Rows.dirRisesRow.goesBy Tryz.prog:=Zcy Q92 rfl
end
end Go.Proofs.YtidniacddkalaaaGreatDoor
