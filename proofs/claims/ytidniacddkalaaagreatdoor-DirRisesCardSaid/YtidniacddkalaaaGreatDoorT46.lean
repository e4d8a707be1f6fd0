/- This file holds in one the texts F34; each says at its head what it proves. -/
import Derived.Test.YtidniacddkalaaaGreatDoorT14
import Derived.Test.YtidniacddkalaaaGreatDoorT42
import Derived.Test.YtidniacddkalaaaGreatDoorT45
set_option linter.unusedSimpArgs false
set_option linter.unusedVariables false
namespace Go.Proofs.YtidniacddkalaaaGreatDoor
section
set_option maxRecDepth 100000
open Go.AM
theorem Zbg{g:Get}{n:Nat}{v:V}(h:frz g (n+1) v=some (.bool true)):v= .bool true:=by
 cases v with
 |bool b=>simp only[frz] at h;cases h;rfl
 |_=>exfalso;simp only[frz] at h;revert h;(repeat' split)<;>simp
theorem Zei{P:Program}{pol:Pol}{f:FuncId}{xs:List V}(h:Fz P pol f xs fun r=>r= .bool true):∃H',Qp P pol f xs []=some (.ret (.bool true),H'):=by obtain⟨v,H',v',h1,h2,rfl⟩:=h;exact⟨H',by rw[h1,Zbg h2]⟩
theorem okR:Okay Tryz.prog Qet:=Zdz Q50
theorem Zde{n:Nat}{y:V}(h:Qcq Tryz.prog n 3 y):∃m,y= .int .i64 m:=by unfold Qcq at h;rw[Tryz.underlying3] at h;obtain⟨m,h⟩:=Zv Tryz.underlying3 h;exact⟨m,(List.cons.inj h).1⟩
theorem Zce{n:Nat}{y:V}(h:Qcq Tryz.prog n 9 y):∃s,y= .str s:=by
 unfold Qcq at h;rw[Tryz.underlying9] at h;cases n with
 |zero=>exact h.elim
 |succ n=>
  simp only[Z2,Tryz.underlying9] at h;obtain⟨s,h,_⟩:=h;exact⟨s,(List.cons.inj h).1⟩
theorem Q8e{n:Nat}{y:V}(h:Qcq Tryz.prog n 36 y):∃bv wv sv mv lv kv ov cv x,y= .agg (Zd bv wv sv mv lv kv ov cv x.p)/\Jx bv wv sv mv lv kv ov cv x/\x.Fits:=by unfold Qcq at h;rw[Tryz.underlying36] at h;obtain⟨cs,rfl,h⟩:=h;obtain⟨bv,wv,sv,mv,lv,kv,ov,cv,x,rfl,h1,h2⟩:=Q1z h;exact⟨bv,wv,sv,mv,lv,kv,ov,cv,x,rfl,h1,h2⟩
theorem Q26:∀xs,Qk4 Tryz.prog [36,3,9] xs->∃H',Qp Tryz.prog Qet (some 3) xs []=some (.ret (.bool true),H'):=by intro xs h;obtain⟨n1,y1,r1,a1,⟨n2,y2,r2,a2,⟨n3,y3,r3,a3,rfl,rfl⟩,rfl⟩,rfl⟩:=h;obtain⟨bv,wv,sv,mv,lv,kv,ov,cv,x,rfl,h1,h2⟩:=Q8e a1;obtain⟨id,rfl⟩:=Zde a2;obtain⟨s,rfl⟩:=Zce a3;exact Zei (Zac h1 h2 id s)
end
end Go.Proofs.YtidniacddkalaaaGreatDoor
