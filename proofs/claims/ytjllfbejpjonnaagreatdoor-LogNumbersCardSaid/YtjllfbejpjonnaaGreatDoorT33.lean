/- This file holds in one the texts LN30; each says at its head what it proves. -/
import Derived.Test.YtjllfbejpjonnaaGreatDoorT10
import Derived.Test.YtjllfbejpjonnaaGreatDoorT30
import Derived.Test.YtjllfbejpjonnaaGreatDoorT32
set_option linter.unusedSimpArgs false
set_option linter.unusedVariables false
namespace Go.Proofs.YtjllfbejpjonnaaGreatDoor
section
set_option maxRecDepth 100000
open Go.AM
theorem Zba{g:Get}{n:Nat}{v:V}(h:frz g (n+1) v=some (.bool true)):v= .bool true:=by
 cases v with
 |bool b=>simp only[frz] at h;cases h;rfl
 |_=>exfalso;simp only[frz] at h;revert h;(repeat' split)<;>simp
theorem Zdr{P:Program}{pol:Pol}{f:FuncId}{xs:List V}(h:Fz P pol f xs fun r=>r= .bool true):∃H',Qn P pol f xs []=some (.ret (.bool true),H'):=by obtain⟨v,H',v',h1,h2,rfl⟩:=h;exact⟨H',by rw[h1,Zba h2]⟩
theorem okR:Okay Tp Qjp:=Zen Q58
theorem Zcw{n:Nat}{y:V}(h:Qf1 Tp n 3 y):∃m,y= .int .i64 m:=by unfold Qf1 at h;rw[Zu3] at h;obtain⟨m,h⟩:=Z3 Zu3 h;exact⟨m,(List.cons.inj h).1⟩
theorem Q7y{n:Nat}{y:V}(h:Qf1 Tp n 36 y):∃bv wv sv mv lv kv ov cv x,y= .agg (Qf bv wv sv mv lv kv ov cv x.p)/\K5 bv wv sv mv lv kv ov cv x/\x.Fits:=by unfold Qf1 at h;rw[Tryz.underlying36] at h;obtain⟨cs,rfl,h⟩:=h;obtain⟨bv,wv,sv,mv,lv,kv,ov,cv,x,rfl,h1,h2⟩:=Q1v h;exact⟨bv,wv,sv,mv,lv,kv,ov,cv,x,rfl,h1,h2⟩
theorem Qwm:∀xs,Qkr Tp [36,3] xs->∃H',Qn Tp Qjp (some 3) xs []=some (.ret (.bool true),H'):=by intro xs h;obtain⟨n1,y1,r1,a1,⟨n2,y2,r2,a2,rfl,rfl⟩,rfl⟩:=h;obtain⟨bv,wv,sv,mv,lv,kv,ov,cv,x,rfl,h1,h2⟩:=Q7y a1;obtain⟨id,rfl⟩:=Zcw a2;exact Zdr (Q1c h1 h2 id)
end
end Go.Proofs.YtjllfbejpjonnaaGreatDoor
