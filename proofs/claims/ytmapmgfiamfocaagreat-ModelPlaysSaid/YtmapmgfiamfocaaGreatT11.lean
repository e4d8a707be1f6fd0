/- This file holds in one the texts An29; each says at its head what it proves. -/
import Derived.Test.YtmapmgfiamfocaaGreatT10
set_option linter.unusedSimpArgs false
set_option linter.unusedVariables false
section
namespace Go.AM
section
variable (P : Program) (pol : Pol) (C : Call) (L : Yu -> Qas) (fn fr : Nat)
def UC(X:Option (Rt×Qg))(d:Option Nat)(k k' :List It)(t:List V):Out:=match X with
 |some (.ret v,H)=>U P pol C L fn fr k .normal (Z5 t d v) H
 |some (.pan v,H)=>U P pol C L fn fr k' (.panic v) t H
 |none=>none
def UR(X:Option (Rt×Qg))(d:Option Nat)(k:List It)(t:List V):Out:=match X with
 |some (.ret v,H)=>U P pol C L fn fr k .normal (Z5 t d v) H
 |_=>none
def US(X:Option Yv)(d:Option Nat)(k k' :List It)(t:List V)(H:Qg):Out:=match X with
 |some (.val v w)=>U P pol C L fn fr k .normal (Z5 t d v) (wr H w)
 |some (.panic v)=>U P pol C L fn fr k' (.panic v) t H
 |some (.call f args)=>UC P pol C L fn fr (Zn pol C fn fr d f args H) d k k' t
 |some (.round f s args)=>UR P pol C L fn fr (C none (.yield f s::args) H) d k t
 |none=>none
def UL(X:Out)(k:List It):Out:=X.bind fun x=>U P pol C L fn fr k x.1 x.2.1 x.2.2
def UI(v:V)(k k' :List It)(t:List V)(H:Qg):Out:=match v with
 | .bool true=>U P pol C L fn fr k .normal t H
 | .bool false=>U P pol C L fn fr k' .normal t H
 |_=>none
def UG(v:Option V)(want:Bool)(k k' :List It)(d:Option Nat)(t:List V)(H:Qg):Out:=match v with
 |some (.bool b)=>if b=want then U P pol C L fn fr k .normal t H else U P pol C L fn fr k' .normal (Z5 t d nov) H
 |some (.tuple [])=>U P pol C L fn fr k' .normal (Z5 t d nov) H
 |_=>none
end
section
variable {P : Program} {pol : Pol} {C : Call} {L : Yu -> Qas} {fn fr : Nat} {ops : Array Oper} {r : List Oper} {t : List V} {H : Qg} {d : Option Nat} {ty u : TypeId} {ps : String} {af : Array Edge} {x y z : Operand} {k k' : List It} {v : V} {a : Array Oper}
theorem uc_ret:UC P pol C L fn fr (some (.ret v,H)) d k k' t=U P pol C L fn fr k .normal (Z5 t d v) H:=rfl
theorem uc_pan:UC P pol C L fn fr (some (.pan v,H)) d k k' t=U P pol C L fn fr k' (.panic v) t H:=rfl
theorem us_val{w:Option (Nat×Nat×O)}:US P pol C L fn fr (some (.val v w)) d k k' t H=U P pol C L fn fr k .normal (Z5 t d v) (wr H w):=rfl
theorem Q7u{f:FuncId}{args:List V}:US P pol C L fn fr (some (.call f args)) d k k' t H=UC P pol C L fn fr (Zn pol C fn fr d f args H) d k k' t:=rfl
theorem Q5d:US P pol C L fn fr (some (.panic v)) d k k' t H=U P pol C L fn fr k' (.panic v) t H:=rfl
theorem Q6t{e:Ex}:UL P pol C L fn fr (some (e,t,H)) k=U P pol C L fn fr k e t H:=rfl
theorem Q54:UI P pol C L fn fr (.bool true) k k' t H=U P pol C L fn fr k .normal t H:=rfl
theorem Q4w:UI P pol C L fn fr (.bool false) k k' t H=U P pol C L fn fr k' .normal t H:=rfl
theorem ug_tt:UG P pol C L fn fr (some (.bool true)) true k k' d t H=U P pol C L fn fr k .normal t H:=rfl
theorem ug_ff:UG P pol C L fn fr (some (.bool false)) false k k' d t H=U P pol C L fn fr k .normal t H:=rfl
theorem ug_tf:UG P pol C L fn fr (some (.bool true)) false k k' d t H=U P pol C L fn fr k' .normal (Z5 t d nov) H:=rfl
theorem ug_ft:UG P pol C L fn fr (some (.bool false)) true k k' d t H=U P pol C L fn fr k' .normal (Z5 t d nov) H:=rfl
theorem ug_no{want:Bool}:UG P pol C L fn fr (some (.tuple [])) want k k' d t H=U P pol C L fn fr k' .normal (Z5 t d nov) H:=rfl
theorem w_loop{b:Code}:U P pol C L fn fr (.code (.loop b)::k) .normal t H=UL P pol C L fn fr (L (round P pol C L fn fr b) t H) k:=rfl
theorem w_cond{c:Operand}{p q:Code}:U P pol C L fn fr (.code (.cond c p q)::k) .normal t H=UI P pol C L fn fr (rho t c) (.code p::k) (.code q::k) t H:=by
 rw[u_if];cases rho t c with
 |bool b=>cases b<;>rfl
 |_=>rfl
theorem Q7z{op:Op}{j:Nat}{want:Bool}:U P pol C L fn fr (.ops a ({dst:=d,op:=op,type:=ty,pos:=ps,after:=af,guard:=some (j,want)}::r)::k) .normal t H=
 UG P pol C L fn fr (gd a t j) want (.ops a ({dst:=d,op:=op,type:=ty,pos:=ps,after:=af,guard:=none}::r)::k) (.ops a r::k) d t H:=by
 rw[u_when];rfl
theorem w_op{op:Op}:U P pol C L fn fr (.ops a ({dst:=d,op:=op,type:=ty,pos:=ps,after:=af,guard:=none}::r)::k) .normal t H=
 US P pol C L fn fr (K0 P (pol.mt fn) fr (Qd H) (rho t) {dst:=d,op:=op,type:=ty,pos:=ps,after:=af,guard:=none}) d (.ops a r::k) k t H:=by
 rw[Q6j];cases K0 P (pol.mt fn) fr (Qd H) (rho t) {dst:=d,op:=op,type:=ty,pos:=ps,after:=af,guard:=none} with
 |none=>rfl
 |some s=>
  cases s with
  |val v w=>rfl
  |panic v=>rfl
  |call f args=>
   simp only[US,UC];cases Zn pol C fn fr d f args H with
   |none=>rfl
   |some q=>obtain⟨q,H'⟩:=q;cases q<;>rfl
  |round f s args=>
   simp only[US,UR];cases C none (.yield f s::args) H with
   |none=>rfl
   |some q=>obtain⟨q,H'⟩:=q;cases q<;>rfl
theorem Q7t{mt:Nat->Bool}{dst:Option Nat}{s d:TypeId}{k:IntKind}{n:Int}:Qgu P mt dst s d (.int k n)=none:=by
 unfold Qgu;split
 . rename_i h;cases h
 . rfl
end
end Go.AM
end
