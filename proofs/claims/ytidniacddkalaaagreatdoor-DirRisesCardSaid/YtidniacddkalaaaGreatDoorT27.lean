/- This file holds in one the texts Bf5, Bf6, Bx30, Bx39; each says at its head what it proves. -/
import Derived.Test.YtidniacddkalaaaGreatDoorT23
import Derived.Test.YtidniacddkalaaaGreatDoorT26
set_option linter.unusedSimpArgs false
set_option linter.unusedVariables false
section
namespace Go.AM.BM
section
variable {P : Program} {pol : Pol} {n : Nat}
theorem Zal{R:Type}(v:V)(nl:R)(ki:List V->Nat->R)(kg:List V->Nat->Nat->R)(km:Nat->Nat->Nat->Nat->Nat->R)(e:R):vSl v nl ki kg km e=match v with
 | .nS=>nl
 | .iS cs m _=>ki cs m
 | .gS _ _ cs m q=>kg cs m q
 | .mS f s o m _ q=>km f s o m q
 |_=>e:=by cases v<;>rfl
theorem Qit(a b:Nat):Nat.beq a b=decide (a=b):=by
 cases h:Nat.beq a b with
 |true=>exact(Zum (Zt7 h)).symm
 |false=>exact(Zun (Nat.ne_of_beq_eq_false h)).symm
theorem Qty(a b:Nat):Nat.ble a b=decide (a<=b):=by
 cases h:Nat.ble a b with
 |true=>exact(Zum (Ztq h)).symm
 |false=>
  symm;apply Zun;intro e;rw[Zt6 e] at h;cases h
theorem Zeu{t e:TypeId}{m:Nat}(hu:P.underlying t=some (.slice e))(hs:sz P e=some m)(x i:V):atSl m x i=Qm P t x i:=by
 simp only[atSl,Qu4];cases i with
 |int k i=>
  simp only[Qm,hu,hs];cases i with
  |negSucc i=>
   have:¬(0<=Int.negSucc i):=by omega
   cases x<;>simp only[this,false_and,if_false]
  |ofNat i=>
   have h0:(0:Int)<=(Int.ofNat i):=by simp
   have ht:(Int.ofNat i).toNat=i:=rfl;have hl:∀n:Nat,(Int.ofNat i<(n:Int))↔Nat.succ i<=n:=fun n=>by simp;omega
   simp only[Zal];cases x with
   |iS cs len full=>
    simp only[Qgh,Qit,Qty,decide_eq_true_eq,h0,true_and,hl,ht];by_cases a:Nat.succ i<=len
    . by_cases b:cs.length=len*m
      . by_cases c:1<=m
        . simp[a,b,c,Nat.pos_of_ne_zero (by omega:m≠0)]
        . have:¬0<m:=by omega
          simp[a,b,c,this]
      . simp[a,b]
    . simp[a]
   |gS f s cs len e' =>
    simp only[Qgh,Qit,Qty,decide_eq_true_eq,h0,true_and,hl,ht];by_cases a:Nat.succ i<=len
    . by_cases b:e' =m
      . simp only[a,b,if_true,and_self];cases Qx cs<;>rfl
      . simp[a,b]
    . simp[a]
   |mS f s o len cap e' =>
    simp only[Qgh,Qit,Qty,decide_eq_true_eq,h0,true_and,hl,ht];by_cases a:Nat.succ i<=len
    . by_cases b:e' =m
      . simp[a,b]
      . simp[a,b]
    . simp[a]
   |_=>(first|rfl|simp)
 |_=>(first|rfl|simp[Qm])
theorem Qrj(dst:Option Nat)(t:TypeId)(x i:Operand)(cc:FC)(nm:Nat)(k:KT)(T:TM)(F:FH):(Qj7 P n dst t x i).f cc nm k T F=(Bc P pol n dst (.indexAddr t x i)).f cc nm k T F:=by
 have gen:Qkl (Qm P t ((cR n x).f T) ((cR n i).f T)) (fun v=>k ((cP n dst).f T v) F)=(Bc P pol n dst (.indexAddr t x i)).f cc nm k T F:=
  Qlp (x:=Qm P t ((cR n x).f T) ((cR n i).f T)) rfl (fun _=>rfl)
 rw[<-gen];simp only[Qj7];cases hu:P.underlying t with
 |none=>rfl
 |some dd=>
  cases dd with
  |slice e=>
   simp only;cases hs:sz P e with
   |none=>
    have:Qm P t ((cR n x).f T) ((cR n i).f T)=none:=by
     unfold Qm;split
     . simp only[hu,hs]
     . rfl
    rw[this];rfl
   |some m=>
    simp only;rw[Zeu hu hs]
  |_=>rfl
theorem Q9m(dst:Option Nat)(s t:TypeId)(x:Operand)(cc:FC)(nm:Nat)(k:KT)(T:TM)(F:FH):(Q93 P pol n dst s t x).f cc nm k T F=(Bc P pol n dst (.convert s t x)).f cc nm k T F:=by
 unfold Q93;split
 . rename_i q a hq ha;simp only[Qu4];split
   . rename_i b m hx;rw[Q9j];simp only[Bc,evX,Qhh,convertV,hq,ha,hx];rfl
   . rfl
 . rfl
theorem Zc7{t:TypeId}(h:isSl P t=true):∃e,P.underlying t=some (.slice e):=by
 unfold isSl at h;split at h
 . rename_i e he;exact⟨e,he⟩
 . cases h
theorem Zc4(dst:Option Nat)(c:Go.Call)(cc:FC)(nm:Nat)(k:KT)(T:TM)(F:FH):Sub .no ((cLen P pol n dst c).f cc nm k T F) ((Bc P pol n dst (.call c)).f cc nm k T F):=by
 unfold cLen;split
 . rename_i x t hc ha ht;cases h:isSl P t with
   |false=>exact .inr rfl
   |true=>
    simp only[cond_true];obtain⟨e,he⟩:=Zc7 h;have h0:c.argTypes[0]?=some t:=by rw[<-Zso,ht];rfl
    simp only[lenO,Zal,Bc,evX,Q3h,hc,ha,Zrw,Zsc,builtinV,h0,Y4,he];cases(cR n x).f T with
    |nS=>exact .inr rfl
    |iS cs m f=>exact .inr rfl
    |gS f s cs m q=>exact .inr rfl
    |mS f s o m cap q=>exact .inr rfl
    |_=>exact .inl rfl
 . exact .inr rfl
theorem Q9t(dst:Option Nat)(c:Go.Call)(cc:FC)(nm:Nat)(k:KT)(T:TM)(F:FH):Sub .no ((Zap P pol n dst c).f cc nm k T F) ((Bc P pol n dst (.call c)).f cc nm k T F):=by
 unfold Zap;split
 . rename_i f hc;refine .inr ?_;have hf:(cR n (.func f)).f T= .func (.func f) [] []:=rfl;simp only[Bc,evX,Q3h,hc,hf,Qqc,Zti,Zsp,Qjc];cases hps:pol.prims f with
   |some g=>simp only[Qsr,Qjc,hps]
   |none=>
   simp only;cases hp:pol.prim f with
   |none=>
    simp only;cases ha:pol.fixA f with
    |some i=>simp only[Qsr,Qjc,hps,hp,ha]
    |none=>
     cases hx:pol.fix f with
     |false=>simp only[Qsr,Qko,fixF,wrF]
     |true=>simp only[Qsr,Qjc,hps,hp,ha,hx]
   |some g=>
    simp only[Qsr];generalize(List.map (fun x=>(cR n x).f T) c.args.toList)=args;cases g 0 (some F.next) (Xy F) args with
    |none=>rfl
    |some x=>rfl
 . exact .inr rfl
 . exact Zc4 dst c cc nm k T F
theorem cOp_ok(chk:Bool)(dst:Option Nat)(o:Op)(cc:FC)(nm:Nat)(k:KT)(T:TM)(F:FH)(hf:chk=false->F.tr.get nm=none):
 Sub .no ((cOp P pol n chk dst o).f cc nm k T F) ((Bc P pol n dst o).f cc nm k T F):=by
 unfold cOp;split
 . exact .inr (Q84 dst _ cc nm k T F)
 . exact .inr (Q55 dst _ cc nm k T F)
 . exact .inr (Za0 dst _ _ _ cc nm k T F)
 . exact .inr (Q6f chk dst _ cc nm k T F hf)
 . exact .inr (Q8x dst _ _ cc nm k T F)
 . exact .inr (Q5b dst _ _ _ cc nm k T F)
 . exact .inr (Zee dst _ cc nm k T F)
 . exact .inr (Q7x dst _ _ _ _ _ cc nm k T F)
 . exact .inr (Q8v dst _ _ _ cc nm k T F)
 . exact .inr (Qrr dst _ _ _ cc nm k T F)
 . exact .inr (Q5y dst _ _ _ cc nm k T F)
 . exact .inr (Qwo dst _ _ cc nm k T F)
 . exact .inr (Qrj dst _ _ _ cc nm k T F)
 . exact .inr (Q9m dst _ _ _ cc nm k T F)
 . exact Q9t dst _ cc nm k T F
 . exact .inr rfl
def Qjj(Kd:List V->Heap->Out)(x:Option (Ex×List V×Heap)):Out:=match x with
 |some (.normal,t,H)=>Kd t H
 |x=>x
theorem Zch{x:FR}{o:Option (Rt×Heap)}(h:RR x o)(b:Bool):RR (fixF b x) (Qz6 b o):=by
 cases b with
 |false=>exact h
 |true=>
  cases x with
  |no=>trivial
  |ret v F=>
   obtain⟨H,rfl,hF⟩:=h;simp only[fixF,Qz6,hF.get];cases Qyw (Qd H) v with
   |none=>trivial
   |some y=>exact⟨_,rfl,hF.wr y.2⟩
  |pan v F=>obtain⟨H,rfl,hF⟩:=h;exact⟨H,rfl,hF⟩
theorem Zay{cc:FC}{C:Call}(hc:RC cc C)(f:FuncId)(args:List V){F:FH}{H:Heap}(h:RH F H):RR (Qjc pol cc f args F) (callOp pol C (Q4 H) f args H):=by
 unfold Qjc callOp;cases pol.prims f with
 |some g=>
  simp only;rw[h.get,h.next];cases g F.next (Qd H) args with
  |none=>trivial
  |some x=>exact⟨_,rfl,RH.wrL _ h⟩
 |none=>
 simp only;cases pol.prim f with
 |none=>
  simp only[h.get];cases Qko (Qd H) (pol.fixA f) args with
  |none=>trivial
  |some y=>exact Zch (hc (some f) y.1 _ _ (h.wr y.2)) _
 |some g=>
  simp only;rw[h.get,h.next];cases g 0 (some F.next) (Qd H) args with
  |none=>trivial
  |some x=>exact⟨_,rfl,h.wr x.2⟩
theorem Ze7{cc:FC}{C:Call}(hc:RC cc C)(nm:Nat){k:KT}{Kd:List V->Heap->Out}(hk:∀T t F H,RT n T t->RH F H->RO n (k T F) (Kd t H))(o:Oper){T:TM}{t:List V}{F:FH}{H:Heap}(hT:RT n T t)(hF:RH F H):
 RO n ((Bc P pol n o.dst o.op).f cc nm k T F) (Qjj Kd (Q7 P pol C nm t H o)):=by
 simp only[Bc,Q7,Zbw,hT.rhoF,hF.get];cases evX P (Qd H) (rho t) nm o.op with
 |none=>
  simp only[Qqc];cases J7 P (Qd H) (rho t) nm o.op with
  |none=>trivial
  |some x=>exact hk _ _ _ _ (hT.put _ _) (RH.wrL _ hF)
 |some s=>
  cases s with
  |val v w=>exact hk _ _ _ _ (hT.put _ _) (hF.wr w)
  |panic v=>exact⟨t,H,rfl,hT,hF⟩
  |call f args=>
   have:=Zay (pol:=pol) hc f args hF;simp only[Qqc,resK];revert this;cases Qjc pol cc f args F with
   |no=>intro _;trivial
   |ret v F' =>rintro⟨H',e,h'⟩;simp only[e,Qjj];exact hk _ _ _ _ (hT.put _ _) h'
   |pan v F' =>rintro⟨H',e,h'⟩;simp only[e,Qjj];exact⟨t,H',rfl,hT,h'⟩
  |round f s args=>
   have:=hc none (.yield f s::args) F H hF;simp only[Qqc,rndK];revert this;cases cc none (.yield f s::args) F with
   |no=>intro _;trivial
   |ret v F' =>rintro⟨H',e,h'⟩;simp only[e,Qjj];exact hk _ _ _ _ (hT.put _ _) h'
   |pan v F' =>intro _;trivial
theorem RO.sub{x y:FO}{o:Out}(h:Sub .no x y)(r:RO n y o):RO n x o:=by
 rcases h with rfl|rfl
 . trivial
 . exact r
theorem Qsu{cc:FC}{C:Call}(hc:RC cc C)(chk:Bool)(nm:Nat){k:KT}{Kd:List V->Heap->Out}(hk:∀T t F H,RT n T t->RH F H->RO n (k T F) (Kd t H))(o:Oper){T:TM}{t:List V}{F:FH}{H:Heap}(hT:RT n T t)(hF:RH F H)
 (hn:chk=false->nm=F.next):RO n ((cOp P pol n chk o.dst o.op).f cc nm k T F) (Qjj Kd (Q7 P pol C nm t H o)):=
 RO.sub (cOp_ok chk o.dst o.op cc nm k T F fun h=>by rw[hn h];exact hF.fresh) (Ze7 hc nm hk o hT hF)
theorem Qso{ops:Array Oper}{T:TM}{t:List V}(hT:RT n T t){o:Oper}{j:Nat}{want:Bool}(hg:o.guard=some (j,want)){i:Nat}(hi:(ops[j]?).bind (·.dst)=some i):
 Zy ops t o=match(cR n (.tmp i)).f T with
  | .bool b=>some (b==want)
  | .tuple []=>some false
  |_=>none:=by
 rw[hT.rho];simp only[Zy,hg,hi,Zrr,rho,List.getD];cases h:t[i]? with
 |none=>rfl
 |some v=>
  cases v with
  |tuple vs=>cases vs<;>rfl
  |_=>rfl
theorem Qm3{ops:Array Oper}{t:List V}{o:Oper}(hg:o.guard=none):Zy ops t o=some true:=by simp only[Zy,hg]
theorem bcond(b want:Bool):(bif b then want else !want)=(b==want):=by cases b<;>cases want<;>rfl
theorem Qfh{cc:FC}{C:Call}(hc:RC cc C)(ops:Array Oper):∀(l:List Oper) {T:TM} {t:List V} {F:FH} {H:Heap},RT n T t->RH F H->RO n ((Qx2 P pol n ops l).f cc T F) (Zi P pol C ops l t H)
 |[],T,t,F,H,hT,hF=>⟨t,H,rfl,hT,hF⟩
 |o::l,T,t,F,H,hT,hF=>by
  have ih:=fun{T:TM} {t:List V} {F:FH} {H:Heap}=>Qfh hc ops l (T:=T) (t:=t) (F:=F) (H:=H);have step:RO n ((cOp P pol n false o.dst o.op).f cc F.next ((Qx2 P pol n ops l).f cc) T F) (Qjj (Zi P pol C ops l) (Q7 P pol C (Q4 H) t H o)):=by rw[hF.next];exact Qsu hc false F.next (fun T t F H h1 h2=>ih h1 h2) o hT hF (fun _=>rfl)
  have key:(match Q7 P pol C (Q4 H) t H o with
   |some (.normal,t,H)=>Zi P pol C ops l t H
   |x=>x)=Qjj (Zi P pol C ops l) (Q7 P pol C (Q4 H) t H o):=by
   unfold Qjj;rfl
  show RO n ((cG P pol n ops false o).f cc F.next ((Qx2 P pol n ops l).f cc) T F) _;simp only[Zi];unfold cG;cases hg:o.guard with
  |none=>
   simp only[Qm3 hg];exact step
  |some q=>
   obtain⟨j,want⟩:=q;simp only;cases hi:(ops[j]?).bind (·.dst) with
   |none=>trivial
   |some i=>
    simp only[Qso hT hg hi];cases hv:(cR n (.tmp i)).f T with
    |bool b=>
     simp only[bcond];cases hb:(b==want) with
     |true=>simp only[cond_true];exact step
     |false=>simp only[cond_false];exact ih (hT.put _ _) hF
    |tuple vs=>
     cases vs with
     |nil=>exact ih (hT.put _ _) hF
     |cons v vs=>trivial
    |_=>trivial
theorem fpG_eq(lim nm:Nat){T:TM}{t:List V}{F F1:FH}{H H1:Heap}(hT:RT n T t)(hF:RH F H)(hF1:RH F1 H1)(o:Oper):fpG P lim nm (Xy F) (Xy F1) F.next (fun x=>(cR n x).f T) o=Jk P lim nm t H H1 o:=by
 have e1:=hF.next;simp only[fpG,Jk,Zbw,hT.rhoF,hF.get,hF1.get];split
 . rfl
 . split
   . rfl
   . cases evX P (Qd H) (rho t) nm o.op with
     |none=>rfl
     |some s=>
      have hk:Qi5 lim H H1=fun f s=>Nat.ble lim F.next&&eqbG (Qd H f s) (Qd H1 f s):=by simp only[<-e1];rfl
      cases s with
      |call f args=>simp only[hk]
      |_=>rfl
def RFT(n:Nat):FT->Option (List V×Heap×List FP)->Prop
 | .no,_=>True
 | .ok T F l,o=>∃t H,o=some (t,H,l)/\RT n T t/\RH F H
theorem Qm4{cc:FC}{C:Call}(hc:RC cc C)(ops:Array Oper)(lim:Nat):∀(l:List Oper) (nm:Nat) {T:TM} {t:List V} {F:FH} {H:Heap},RT n T t->RH F H->RFT n ((Qm1 P pol n ops l).f cc lim nm T F) (Q3 P pol C ops lim nm l t H)
 |[],nm,T,t,F,H,hT,hF=>⟨t,H,rfl,hT,hF⟩
 |o::l,nm,T,t,F,H,hT,hF=>by
  have ih:=fun{T:TM} {t:List V} {F:FH} {H:Heap}=>Qm4 hc ops lim l (nm+1) (T:=T) (t:=t) (F:=F) (H:=H);have cons:∀(fp:FP) (x:FT) (o:Option (List V×Heap×List FP)),RFT n x o->RFT n (Qi0 fp x) (match o with
   |some (t',H',T)=>some (t',H',fp::T)
   |none=>none):=by
   intro fp x o h;cases x with
   |no=>trivial
   |ok T F l=>obtain⟨t,H,rfl,h1,h2⟩:=h;exact⟨t,H,rfl,h1,h2⟩
  have step:RFT n (oneT ((cOp P pol n true o.dst o.op).f cc nm (fun T F=> .nrm T F) T F) fun T1 F1=>
        Qi0 (fpG P lim nm (Xy F) (Xy F1) F.next (fun x=>(cR n x).f T) o) ((Qm1 P pol n ops l).f cc lim (Nat.succ nm) T1 F1))
   (match Q7 P pol C nm t H o with
     |some (.normal,t1,H1)=>(match Q3 P pol C ops lim (nm+1) l t1 H1 with
      |some (t',H',T)=>some (t',H',Jk P lim nm t H H1 o::T)
      |none=>none)
     |_=>none):=by
   have:=Qsu (P:=P) (pol:=pol) hc true nm (k:=fun T F=> .nrm T F) (Kd:=fun t H=>some (.normal,t,H)) (fun T t F H h1 h2=>⟨t,H,rfl,h1,h2⟩) o hT hF (fun e=>by cases e);revert this;cases(cOp P pol n true o.dst o.op).f cc nm (fun T F=> .nrm T F) T F with
   |nrm T1 F1=>
    rintro⟨t1,H1,e,h1,h2⟩;have e2:Q7 P pol C nm t H o=some (.normal,t1,H1):=by
     revert e;unfold Qjj;cases Q7 P pol C nm t H o with
     |none=>intro e;cases e
     |some y=>
      obtain⟨ex,ty,Hy⟩:=y;cases ex<;>intro e<;>cases e;rfl
    simp only[e2,oneT];rw[fpG_eq lim nm hT hF h2 o];exact cons _ _ _ (ih h1 h2)
   |_=>intro _;trivial
  show RFT n ((match o.guard with
   |none=>(⟨fun cc lim nm T F=>oneT ((cOp P pol n true o.dst o.op).f cc nm (fun T F=> .nrm T F) T F) fun T1 F1=>
     Qi0 (fpG P lim nm (Xy F) (Xy F1) F.next (fun x=>(cR n x).f T) o) ((Qm1 P pol n ops l).f cc lim (Nat.succ nm) T1 F1)⟩:Box (FC->Nat->Nat->TM->FH->FT))
   |some (j,want)=>(match(ops[j]?).bind (·.dst) with
    |some i=>⟨fun cc lim nm T F=>match(cR n (.tmp i)).f T with
     | .bool b=>bif (bif b then want else !want) then oneT ((cOp P pol n true o.dst o.op).f cc nm (fun T F=> .nrm T F) T F) fun T1 F1=>
        Qi0 (fpG P lim nm (Xy F) (Xy F1) F.next (fun x=>(cR n x).f T) o) ((Qm1 P pol n ops l).f cc lim (Nat.succ nm) T1 F1)
       else Qi0 .quiet ((Qm1 P pol n ops l).f cc lim (Nat.succ nm) ((cP n o.dst).f T nov) F)
     | .tuple []=>Qi0 .quiet ((Qm1 P pol n ops l).f cc lim (Nat.succ nm) ((cP n o.dst).f T nov) F)
     |_=> .no⟩
    |none=>⟨fun _ _ _ _ _=> .no⟩)).f cc lim nm T F) _
  simp only[Q3];cases hg:o.guard with
  |none=>
   simp only[Qm3 hg];exact step
  |some q=>
   obtain⟨j,want⟩:=q;simp only;cases hi:(ops[j]?).bind (·.dst) with
   |none=>trivial
   |some i=>
    simp only[Qso hT hg hi];cases hv:(cR n (.tmp i)).f T with
    |bool b=>
     simp only[bcond];cases hb:(b==want) with
     |true=>simp only[cond_true];exact step
     |false=>simp only[cond_false];exact cons _ _ _ (ih (hT.put _ _) hF)
    |tuple vs=>
     cases vs with
     |nil=>exact cons _ _ _ (ih (hT.put _ _) hF)
     |cons v vs=>trivial
    |_=>trivial
theorem Q08{cc:FC}{C:Call}(hc:RC cc C)(ops:Array Oper)(draw:Bool){T:TM}{t:List V}{F:FH}{H:Heap}(hT:RT n T t)(hF:RH F H):
 RO n ((cReg P pol n ops draw).f cc T F) (if draw then(match Qd H 0 (Q4 H+ops.size) with
  |some _=>none
  |none=>(match Q3 P pol C ops (Q4 H+ops.size) (Q4 H) ops.toList t (hset H 0 (Q4 H+ops.size) .dead) with
   |some (t',H',T)=>if okT (Region.before ops) (loud T) then some (.normal,t',H') else none
   |none=>none)) else Zi P pol C ops ops.toList t H):=by
 cases draw with
 |false=>exact Qfh hc ops ops.toList hT hF
 |true=>
  simp only[cReg,cond_true,if_true,hF.next,hF.tr];cases Qd H 0 (F.next+ops.size) with
  |some o=>trivial
  |none=>
   simp only;have:=Qm4 (P:=P) (pol:=pol) hc ops (F.next+ops.size) ops.toList F.next hT (hF.set (F.next+ops.size) .dead);revert this;cases(Qm1 P pol n ops ops.toList).f cc (F.next+ops.size) F.next T (Qh7 F (F.next+ops.size) .dead) with
   |no=>intro _;trivial
   |ok T' F' l=>
    rintro⟨t',H',e,h1,h2⟩;simp only[e,endT];cases okT (Region.before ops) (loud l) with
    |true=>exact⟨t',H',rfl,h1,h2⟩
    |false=>trivial
end
section
variable {P : Program} {pol : Pol} {n : Nat}
theorem Qum{x:FO}{o:Out}{k:TM->FH->FO}{Kd:List V->Heap->Out}(h:RO n x o)(hk:∀T t F H,RT n T t->RH F H->RO n (k T F) (Kd t H)):
 RO n (seqK x k) (Qjj Kd o):=by
 cases x with
 |no=>trivial
 |nrm T F=>obtain⟨t,H,rfl,h1,h2⟩:=h;exact hk _ _ _ _ h1 h2
 |exi i T F=>obtain⟨t,H,rfl,h1,h2⟩:=h;exact⟨t,H,rfl,h1,h2⟩
 |ret T F=>obtain⟨t,H,rfl,h1,h2⟩:=h;exact⟨t,H,rfl,h1,h2⟩
 |pan v T F=>obtain⟨t,H,rfl,h1,h2⟩:=h;exact⟨t,H,rfl,h1,h2⟩
theorem Qpb{body:TM->FH->FO}{bd:Kw}(hb:∀T t F H,RT n T t->RH F H->RO n (body T F) (bd t H)):∀(m:Nat) T t F H,RT n T t->RH F H->RO n (Qrz body m T F) (Zw bd m t H)
 |0,_,_,_,_,_,_=>trivial
 |m+1,T,t,F,H,hT,hF=>by
  have:=Qum (hb T t F H hT hF) (k:=Qrz body m) (Kd:=Zw bd m) (fun T t F H h1 h2=>Qpb hb m T t F H h1 h2);exact this
def Q8u(id:Nat)(o:Out):Out:=match o with
    |some (.exit i,t,H)=>if i=id then some (.normal,t,H) else some (.exit i,t,H)
    |r=>r
theorem Zbo{v:V}{a b:FO}{oa ob:Out}(ha:RO n a oa)(hb:RO n b ob):RO n (Qsz v a b) (match v with
 | .bool q=>if q then oa else ob
 |_=>none):=by
 simp only[Qsz,Qxx];cases v with
 |bool q=>
  cases q with
  |true=>exact ha
  |false=>exact hb
 |_=>trivial
theorem Q5a{id:Nat}{x:FO}{o:Out}(h:RO n x o):RO n (Q8j id x) (Q8u id o):=by
 cases x with
 |no=>trivial
 |nrm T F=>obtain⟨t,H,rfl,h1,h2⟩:=h;exact⟨t,H,rfl,h1,h2⟩
 |exi i T F=>
  obtain⟨t,H,rfl,h1,h2⟩:=h;show RO n (Bool.rec (motive:=fun _=>FO) (.exi i T F) (.nrm T F) (Nat.beq i id)) _;rw[Qgh,Qit];simp only[decide_eq_true_eq,Q8u];by_cases e:i=id
  . rw[if_pos e,if_pos e];exact⟨t,H,rfl,h1,h2⟩
  . rw[if_neg e,if_neg e];exact⟨t,H,rfl,h1,h2⟩
 |ret T F=>obtain⟨t,H,rfl,h1,h2⟩:=h;exact⟨t,H,rfl,h1,h2⟩
 |pan v T F=>obtain⟨t,H,rfl,h1,h2⟩:=h;exact⟨t,H,rfl,h1,h2⟩
theorem Q20{s:Nat}{T:TM}{t:List V}{F:FH}{H:Heap}(hT:RT n T t)(hF:RH F H):RO n (Qqq s T F) (Kx s t H):=by
 unfold Qqq Kx;rw[hF.tr];cases Qd H 0 s with
 |none=>trivial
 |some o=>
  cases o with
  |loop st pend fn rid t0=>
   simp only[Qit];by_cases e:st=1
   . rw[if_pos e];simp only[e,decide_true,cond_true];trivial
   . rw[if_neg e];simp only[e,decide_false,cond_false];cases pend with
     |none=>exact⟨t,_,rfl,hT,hF.set s .dead⟩
     |some j=>cases j with
      |none=>exact⟨t,_,rfl,hT,hF.set s .dead⟩
      |some i=>exact⟨t,_,rfl,hT,hF.set s .dead⟩
  |_=>trivial
def Qdv(pol:Pol):Prop:=∀f r,pol.loop f r=none
variable {cc : FC} {C : Call} {fn : Nat}
theorem Qdg(hl:Qdv pol)(hc:RC cc C)(m:Nat)(c:Code):
 (∀T t F H,RT n T t->RH F H->RO n ((comp P pol n fn c).1.f cc m T F) (Q5 P pol C (fun b=>Zw b m) fn c t H))/\
 (∀v w T t F H,RT n T t->RH F H->RO n ((comp P pol n fn c).2.f cc m v w T F) (Z5 P pol C (fun b=>Zw b m) fn c v w t H)):=by
 induction c with
 |skip=>exact⟨fun T t F H hT hF=>⟨t,H,by simp only[Q5],hT,hF⟩,fun _ _ _ _ _ _ _ _=>trivial⟩
 |region id ops draw=>
  refine⟨fun T t F H hT hF=>?_,fun v w T t F H hT hF=>?_⟩
  . simp only[Q5];exact Q08 hc ops draw hT hF
  . simp only[Z5];show RO n ((match ops.toList with
     |o::r=>(⟨fun cc _ v w T F=>(Qx2 P pol n ops r).f cc ((cP n o.dst).f T v) (wrF F w)⟩:Box (FC->Nat->V->Option (Nat×Nat×O)->KT))
     |[]=>⟨fun _ _ _ _ _ _=> .no⟩).f cc m v w T F) _
    cases ops.toList with
    |nil=>trivial
    |cons o r=>exact Qfh hc ops r (hT.put _ _) (hF.wr w)
 |seq a b iha ihb=>
  refine⟨fun T t F H hT hF=>?_,fun v w T t F H hT hF=>?_⟩
  . simp only[Q5];exact Qum (iha.1 T t F H hT hF) ihb.1
  . simp only[Z5];exact Qum (iha.2 v w T t F H hT hF) ihb.1
 |cond c a b iha ihb=>
  refine⟨fun T t F H hT hF=>?_,fun _ _ _ _ _ _ _ _=>trivial⟩;simp only[Q5];have:=Zbo (v:=(cR n c).f T) (iha.1 T t F H hT hF) (ihb.1 T t F H hT hF);rw[hT.rho c] at this;show RO n (Qsz ((cR n c).f T) ((comp P pol n fn a).1.f cc m T F) ((comp P pol n fn b).1.f cc m T F)) _;rw[hT.rho c];exact this
 |block id b ihb=>
  refine⟨fun T t F H hT hF=>?_,fun _ _ _ _ _ _ _ _=>trivial⟩;simp only[Q5];exact Q5a (ihb.1 T t F H hT hF)
 |loop b ihb=>
  refine⟨fun T t F H hT hF=>?_,fun _ _ _ _ _ _ _ _=>trivial⟩;have hl' :=hl fn (Zn b);simp only[Q5,hl'];show RO n ((match Zx b with
   |none=>(⟨fun cc m T F=>Qrz ((comp P pol n fn b).1.f cc m) m T F⟩:Box CB)
   |some x=>⟨fun cc m T F=>Qrz (fun T F=>match Y5 (Xy F) ((cR n x).f T) with
     |some [c]=>(comp P pol n fn b).2.f cc m c.1 c.2 T F
     |_=> .no) m T F⟩).f cc m T F) _
  cases Zx b with
  |none=>exact Qpb ihb.1 m T t F H hT hF
  |some x=>
   refine Qpb (fun T t F H hT hF=>?_) m T t F H hT hF;simp only[hF.get,hT.rho];cases Y5 (Qd H) (rho t x) with
   |none=>trivial
   |some l=>
    match l with
    |[]=>trivial
    |[c]=>exact ihb.2 c.1 c.2 T t F H hT hF
    |_::_::_=>trivial
 |rangeFunc g ps a b iha ihb=>
  refine⟨fun T t F H hT hF=>?_,fun _ _ _ _ _ _ _ _=>trivial⟩;simp only[Q5];show RO n (match(cR n g).f T with
   | .func (.func f) first cap=>Q27 (cc (some f) (first++[.yield 0 F.next]++cap) (Qh7 F F.next (.loop 0 none fn (Zc a b) (toL T n 0)))) F.next T
   |_=> .no) _
  rw[hT.rho];cases rho t g with
  |func q first cap=>
   cases q with
   |func f=>
    have hn:=hF.fresh;rw[hF.tr] at hn;simp only[hF.next,hn,toL_eq hT];have:=hc (some f) (first++[.yield 0 F.next]++cap) _ _ (hF.set F.next (.loop 0 none fn (Zc a b) t));revert this;cases cc (some f) (first++[.yield 0 F.next]++cap) (Qh7 F F.next (.loop 0 none fn (Zc a b) t)) with
    |no=>intro _;trivial
    |ret v F' =>rintro⟨H',e,h'⟩;simp only[e,Q27];exact Q20 hT h'
    |pan v F' =>intro _;trivial
   |_=>trivial
  |_=>trivial
 |exit id=>exact⟨fun T t F H hT hF=>⟨t,H,by simp only[Q5],hT,hF⟩,fun _ _ _ _ _ _ _ _=>trivial⟩
 |ret=>exact⟨fun T t F H hT hF=>⟨t,H,by simp only[Q5],hT,hF⟩,fun _ _ _ _ _ _ _ _=>trivial⟩
 |_=>exact⟨fun _ _ _ _ _ _=>trivial,fun _ _ _ _ _ _ _ _=>trivial⟩
theorem Ze2{T:TM}{t:List V}{F:FH}{H:Heap}(hT:RT n T t)(hF:RH F H)(x:ResultVar):(resO P n x).f T F=Jv P t H x:=by
 cases x with
 |tmp i=>show some ((cR n (.tmp i)).f T)=_;rw[hT.rho];rfl
 |cell a ty=>
  show(match(cR n (.tmp a)).f T with
  | .ptr f s o=>(match Xy F f s with
    |some (.cells xs)=>(Qyj P ty).f xs o
    |_=>none)
  |_=>none)=_
  rw[hT.rho,hF.get];simp only[Jv,rho];cases t.getD a .bad with
  |ptr f s o=>
   simp only;cases Qd H f s with
   |none=>rfl
   |some q=>cases q<;>first|rfl|(simp only[Qyv])
  |_=>rfl
theorem Q3n{T:TM}{t:List V}{F:FH}{H:Heap}(hT:RT n T t)(hF:RH F H):∀l:List ResultVar,(Q2o P n l).f T F=Ks P t H l
 |[]=>rfl
 |x::l=>by
  show(match(resO P n x).f T F,(Q2o P n l).f T F with
   |some v,some vs=>some (v::vs)
   |_,_=>none)=_
  rw[Ze2 hT hF x,Q3n hT hF l];rfl
theorem Qwb{T:TM}{t:List V}{F:FH}{H:Heap}(hT:RT n T t)(hF:RH F H)(Fn:Func):RR (retK ((Q2o P n Fn.results.toList).f T F) F) (match Xn P Fn t H with
        |some v=>some (.ret v,H)
        |none=>none):=by
 rw[Q3n hT hF];simp only[Xn];cases Ks P t H Fn.results.toList with
 |none=>trivial
 |some l=>
  match l with
  |[]=>exact⟨H,rfl,hF⟩
  |[v]=>exact⟨H,rfl,hF⟩
  |_::_::_=>exact⟨H,rfl,hF⟩
def RD(n:Nat):FD->Option (Ex×List V×Heap×List V)->Prop
 | .ok (.nrm T F) ds,o=>∃t H,o=some (.normal,t,H,ds)/\RT n T t/\RH F H
 | .ok (.ret T F) ds,o=>∃t H,o=some (.ret,t,H,ds)/\RT n T t/\RH F H
 |_,_=>True
theorem Qyp{x:FO}{o:Out}(h:RO n x o):RD n x.plain (noD o):=by
 cases x with
 |nrm T F=>obtain⟨t,H,rfl,h1,h2⟩:=h;exact⟨t,H,rfl,h1,h2⟩
 |ret T F=>obtain⟨t,H,rfl,h1,h2⟩:=h;exact⟨t,H,rfl,h1,h2⟩
 |_=>trivial
theorem Qyc{fn:FuncId}(hl:Qdv pol)(hc:RC cc C)(m:Nat):∀(c:Code) (T:TM) (t:List V) (F:FH) (H:Heap),RT n T t->RH F H->RD n (Qnj P pol n fn cc m c T F) (Qdw P pol C (fun b=>Zw b m) fn c t H):=by
 intro c
 induction c with
 |seq a b _ ihb=>
  intro T t F H hT hF;simp only[Qnj,Qdw];cases hd:Qid a with
  |some q=>
   obtain⟨ops,l,d,x⟩:=q;simp only;have h1:=Qfh (P:=P) (pol:=pol) (n:=n) hc ops l hT hF;revert h1;cases(Qx2 P pol n ops l).f cc T F with
   |nrm T1 F1=>
    rintro⟨t1,H1,e,hT1,hF1⟩;rw[e];simp only;rw[hT1.rho x];cases rho t1 x with
    |func f p q=>
     simp only;have h2:=ihb _ _ _ _ (hT1.put d nov) hF1;revert h2;cases Qnj P pol n fn cc m b ((cP n d).f T1 nov) F1 with
     |no=>intro _;trivial
     |ok y ds=>
      cases y with
      |nrm T2 F2=>rintro⟨t2,H2,e2,h3,h4⟩;rw[e2];exact⟨t2,H2,rfl,h3,h4⟩
      |ret T2 F2=>rintro⟨t2,H2,e2,h3,h4⟩;rw[e2];exact⟨t2,H2,rfl,h3,h4⟩
      |_=>intro _;trivial
    |_=>trivial
   |_=>intro _;trivial
  |none=>
   simp only;cases hn:(Q1 a).isEmpty with
   |true=>
    simp only[cond_true,if_true];have h1:=(Qdg (P:=P) (pol:=pol) (n:=n) (fn:=fn) hl hc m a).1 T t F H hT hF;revert h1;cases(comp P pol n fn a).1.f cc m T F with
    |no=>intro _;trivial
    |nrm T1 F1=>rintro⟨t1,H1,e,hT1,hF1⟩;rw[e];exact ihb _ _ _ _ hT1 hF1
    |exi i T1 F1=>intro _;trivial
    |ret T1 F1=>rintro⟨t1,H1,e,hT1,hF1⟩;rw[e];exact⟨t1,H1,rfl,hT1,hF1⟩
    |pan v T1 F1=>intro _;trivial
   |false=>
    simp only[cond_false,Zre,if_false];exact Qyp ((Qdg (P:=P) (pol:=pol) (n:=n) (fn:=fn) hl hc m (.seq a b)).1 T t F H hT hF)
 |_=>
  intro T t F H hT hF;simp only[Qnj,Qdw];exact Qyp ((Qdg (P:=P) (pol:=pol) (n:=n) (fn:=fn) hl hc m _).1 T t F H hT hF)
theorem Qkx(hc:RC cc C):∀(ds:List V) (F:FH) (H:Heap) (F2:FH),RH F H->Qh1 P cc ds F=some F2->∃H2,Qee P C ds H=some H2/\RH F2 H2
 |[],F,H,F2,hF,h=>by cases h;exact⟨H,rfl,hF⟩
 |v::ds,F,H,F2,hF,h=>by
  have key:∃g first cap,v= .func (.func g) first cap:=by
   cases v with
   |func f p q=>
    cases f with
    |func g=>exact⟨g,p,q,rfl⟩
    |_=>simp[Qh1] at h
   |_=>simp[Qh1] at h
  obtain⟨g,first,cap,rfl⟩:=key;simp only[Qh1] at h;cases hp:Ql0 P g with
  |false=>rw[hp] at h;cases h
  |true=>
   rw[hp] at h;simp only[cond_true] at h;have h1:=hc (some g) (first++cap) F H hF;revert h1 h;cases cc (some g) (first++cap) F with
   |ret w F1=>
    intro h;rintro⟨H1,e,h2⟩;obtain⟨H2,q1,q2⟩:=Qkx hc ds F1 H1 F2 h2 h;exact⟨H2,by simp only[Qee,hp,if_true,e,q1],q2⟩
   |_=>intro h;cases h
theorem Qu2(hl:Qdv pol)(hc:RC cc C)(m:Nat)(f:FuncId)(args:List V){F:FH}{H:Heap}(hF:RH F H):
 RR ((Q13 P pol f).f cc m args F) (Qbc P pol C (fun b=>Zw b m) f args H):=by
 unfold Q13 Qbc;cases P.funcs[f]? with
 |none=>trivial
 |some Fn=>
  simp only;cases Fn.body with
  |none=>trivial
  |some c=>
   simp only;cases hb:Nat.blt 1056 Fn.ntmps with
   |true=>trivial
   |false=>
    have hn:Fn.ntmps<=1056:=by
     rcases Zrc 1056 Fn.ntmps with h|h
     . have:Nat.blt 1056 Fn.ntmps=true:=by rw[Nat.blt_eq];exact h
       rw[this] at hb;cases hb
     . exact h
    simp only[cond_false];cases hdc:Qj2 c with
    |true=>
     simp only[cond_true,if_true];cases ha:Nat.ble args.length Fn.ntmps with
     |false=>trivial
     |true=>
      have hla:=Ztq ha;simp only[cond_true,Qzr];have:=Qyc (P:=P) (pol:=pol) (n:=Fn.ntmps) (fn:=f) hl hc m c _ _ F H (RT.args hn args hla) hF;revert this;have fin:∀(T:TM) (F' :FH) (ds:List V) (t' :List V) (H' :Heap),RT Fn.ntmps T t' ->RH F' H' ->RR (match Qh1 P cc ds F' with
       |some F2=>retK ((Q2o P Fn.ntmps Fn.results.toList).f T F2) F2
       |none=> .no) (match Qee P C ds H' with
       |some H2=>(match Xn P Fn t' H2 with
        |some v=>some (.ret v,H2)
        |none=>none)
       |none=>none):=by
       intro T F' ds t' H' h1 h2;cases hds:Qh1 P cc ds F' with
       |none=>trivial
       |some F2=>
        obtain⟨H2,e2,h3⟩:=Qkx hc ds F' H' F2 h2 hds;rw[e2];exact Qwb h1 h3 Fn
      cases Qnj P pol Fn.ntmps f cc m c (ofL args 0 emp) F with
      |no=>intro _;trivial
      |ok y ds=>
       cases y with
       |nrm T F' =>rintro⟨t',H',e,h1,h2⟩;rw[e];exact fin T F' ds t' H' h1 h2
       |ret T F' =>rintro⟨t',H',e,h1,h2⟩;rw[e];exact fin T F' ds t' H' h1 h2
       |_=>intro _;trivial
    |false=>
    simp only[cond_false,Zre,if_false];cases ha:Nat.ble args.length Fn.ntmps with
    |false=>trivial
    |true=>
     have hla:=Ztq ha;simp only[cond_true];have:=(Qdg (P:=P) (pol:=pol) (n:=Fn.ntmps) (fn:=f) hl hc m c).1 _ _ F H (RT.args hn args hla) hF;revert this;cases(comp P pol Fn.ntmps f c).1.f cc m (ofL args 0 emp) F with
     |no=>intro _;trivial
     |nrm T F' =>rintro⟨t',H',e,h1,h2⟩;simp only[e];exact Qwb h1 h2 Fn
     |exi i T F' =>intro _;trivial
     |ret T F' =>rintro⟨t',H',e,h1,h2⟩;simp only[e];exact Qwb h1 h2 Fn
     |pan v T F' =>rintro⟨t',H',e,h1,h2⟩;simp only[e];exact⟨H',rfl,h2⟩
theorem Q3o:∀(ps:List Tmp) (l:List V) {T:TM} {t:List V},RT n T t->RT n (putA n ps l T) (Bs t (ps.zip l))
 |[],_,_,_,h=>h
 |p::ps,[],_,_,h=>h
 |p::ps,v::l,T,t,h=>Q3o ps l (h.put (some p) v)
def Qvw(so:Nat)(o:Out):Option (Rt×Heap):=match o with
          |some (e,_,H2)=>Bq 0 so e H2
          |none=>none
theorem Qyi{so:Nat}{x:FO}{o:Out}(h:RO n x o):RR (Qfe so x) (Qvw so o):=by
 cases x with
 |no=>trivial
 |nrm T F=>
  obtain⟨t,H,rfl,h1,h2⟩:=h;simp only[Qfe,Qvw,Bq,h2.tr];cases Qd H 0 so with
  |none=>trivial
  |some o=>cases o<;>first|trivial|exact⟨_,rfl,h2.set _ _⟩
 |ret T F=>
  obtain⟨t,H,rfl,h1,h2⟩:=h;simp only[Qfe,Qvw,Bq,h2.tr];cases Qd H 0 so with
  |none=>trivial
  |some o=>cases o<;>first|trivial|exact⟨_,rfl,h2.set _ _⟩
 |exi i T F=>
  obtain⟨t,H,rfl,h1,h2⟩:=h;simp only[Qfe,Qvw,Bq,h2.tr];cases Qd H 0 so with
  |none=>trivial
  |some o=>cases o<;>first|trivial|exact⟨_,rfl,h2.set _ _⟩
 |pan v T F=>trivial
theorem Qtv(hl:Qdv pol)(hc:RC cc C)(m:Nat)(fo so:Nat)(args:List V){F:FH}{H:Heap}(hF:RH F H):
 RR (Qt2 P pol cc m fo so args F) (Qa0 P pol C (fun b=>Zw b m) fo so args H):=by
 unfold Qt2 Qa0;cases fo with
 |succ fo=>trivial
 |zero=>
  simp only[hF.tr];cases Qd H 0 so with
  |none=>trivial
  |some o=>
   cases o with
   |loop st pend fL rid t0=>
    cases st with
    |succ st=>trivial
    |zero=>
     simp only;unfold compR;cases hP:P.funcs[fL]? with
     |none=>trivial
     |some Fn=>
      cases Qo P fL rid with
      |none=>trivial
      |some q=>
       obtain⟨ps,a,b⟩:=q;simp only;cases hb:Nat.blt 1056 Fn.ntmps with
       |true=>trivial
       |false=>
        have hn:Fn.ntmps<=1056:=by
         rcases Zrc 1056 Fn.ntmps with h|h
         . have:Nat.blt 1056 Fn.ntmps=true:=by rw[Nat.blt_eq];exact h
           rw[this] at hb;cases hb
         . exact h
        simp only[cond_false,Qit];by_cases h1:args.length=ps.size
        . by_cases h2:t0.length=Fn.ntmps
          . simp only[h1,h2,decide_true,Zts,cond_true,if_true];have hm:=Qdg (P:=P) (pol:=pol) (n:=Fn.ntmps) (fn:=fL) hl hc m;have:=(hm a).1 _ _ F H (Q3o ps.toList args (RT.ofT hn t0 h2)) hF;revert this;cases(comp P pol Fn.ntmps fL a).1.f cc m (putA Fn.ntmps ps.toList args (ofL t0 0 emp)) F with
            |nrm T1 F1=>
             rintro⟨t1,H1,e,g1,g2⟩;simp only[e,midR,g2.tr];cases Qd H1 0 so with
             |none=>trivial
             |some o=>
              cases o with
              |loop st pend fL2 rid2 t2=>
               cases st with
               |succ st=>trivial
               |zero=>exact Qyi ((hm b).1 _ _ _ _ g1 (g2.set so _))
              |_=>trivial
            |_=>intro _;trivial
          . have:(decide (t0.length=Fn.ntmps))=false:=Zun h2;simp only[this,Bool.and_false,cond_false];trivial
        . have:(decide (args.length=ps.size))=false:=Zun h1;simp only[this,Zt8,cond_false];trivial
   |_=>trivial
theorem Qhl(hl:Qdv pol):∀m,RC (Qoh P pol m) (Ye P pol m)
 |0=>fun _ _ _ _ _=>trivial
 |m+1=>by
  intro f args F H hF;cases f with
  |some f=>exact Qu2 hl (Qhl hl m) m f args hF
  |none=>
   show RR (match args with
    | .yield fo so::rest=>Qt2 P pol (Qoh P pol m) m fo so rest F
    |_=> .no) (match args with
    | .yield fo so::rest=>Qa0 P pol (Ye P pol m) (fun b=>Zw b m) fo so rest H
    |_=>none)
   cases args with
   |nil=>trivial
   |cons v l=>
    cases v with
    |yield fo so=>exact Qtv hl (Qhl hl m) m fo so l hF
    |_=>trivial
end
section
variable {P : Program} {pol : Pol}
def Ans(P:Program)(f:FuncId)(xs:List V)(y:V):Prop:=
 y.pure=true/\∀(w:World) (M:Nat->Nat->Prop) (cargs:List Value),(∀b i,M b i->b<w.heap.size)->Qe (bare (Qo P) w M) xs cargs->
  AM.Invokes P f ⟨cargs⟩ w fun e w' =>∃c,e= .returned c/\Rel (bare (Qo P) w' M) y c/\Ext 0 w.heap.size (bare (Qo P) w M) (bare (Qo P) w' M)
theorem Qx4(T:FuncId->Nat->Option (Array Tmp×Code×Code))(w:World)(M:Nat->Nat->Prop)(hM:∀b i,M b i->b<w.heap.size):Sim w.heap.size M [] (bare T w M) where
 dom:=fun f s=>rfl
 bsz:=Zrf _
 fb:=hM
 fmod:=fun _ _ h=>h
 modsz:=hM
 obj:=fun f s o h=>by simp[Qd] at h
 nreg:=fun f s n x h=>by cases h
 inj:=fun f s o _ _ _ _ h=>by simp[Qd] at h
theorem Qof{T T' :FuncId->Nat->Option (Array Tmp×Code×Code)}{w w' :World}{M:Nat->Nat->Prop}{B k:Nat}{E' :Env}(X:Ext k B (bare T w M) E')(hw:E'.w=w')(k' :Nat):Ext k' B (bare T' w M) (bare T' w' M):=by subst hw;exact⟨X.size,X.shape,X.cell,fun _ _ _ _ h=>h,fun _ _ _ _ h=>h,fun f s n b lo hi _ _ h=>⟨n,b,lo,hi,h,.inr ⟨rfl,rfl,rfl,rfl⟩⟩,X.old,X.rest,rfl,X.dfr⟩
theorem Qvm(ok:Okay P pol){m:Nat}{f:FuncId}{xs:List V}{v y:V}{H' :Heap}(h:Ye P pol m (some f) xs [[]]=some (.ret v,H'))(hz:frz (Qd H') depth v=some y)(hy:y.pure=true):Ans P f xs y:=by
 refine⟨hy,fun w M cargs hM hr=>?_⟩;obtain⟨hbody,hall⟩:=(Qat ok m).1 f xs [[]] _ H' h;have hc:=hall w.heap.size M (bare (Qo P) w M) cargs (Sim.first (Qx4 _ w M hM)) rfl rfl hr;have hc' :Calls P f ⟨cargs⟩ w fun e w' =>∃c,e= .returned c/\Rel (bare (Qo P) w' M) y c/\Ext 0 w.heap.size (bare (Qo P) w M) (bare (Qo P) w' M):=by refine hc.mono ?_;rintro e w' ⟨E1,rfl,⟨c,rfl,hcv⟩,S1,X1,_⟩;obtain⟨h1,h2⟩:=S1.frz hz hcv;exact⟨c,rfl,Rel.dress (E:=bare E1.tab E1.w M) (E' :=bare (Qo P) E1.w M) rfl rfl _ _ h2 h1,Qof X1 rfl 0⟩
 rcases ok.invokes hbody hc' with⟨v,w',h1,h2⟩|⟨j,h1,h2⟩
 . exact .inl ⟨v,w',h1,h2⟩
 . exact .inr ⟨j,h1,h2⟩
theorem Ans.take{f:FuncId}{xs:List V}{y:V}(h:Ans P f xs y){B:Nat}{F:Nat->Nat->Prop}{H:Heap}{E:Env}{cargs:List Value}(S:Sim B F H E)(hp:Qx xs=true)(hr:Qe E xs cargs):
 AM.Invokes P f ⟨cargs⟩ E.w fun e w' =>∃E',E'.w=w' /\Q3s E' (.ret y) e/\Sim B F H E' /\Ext H.length B E E' :=by
 have hr1:=Qe.bare (F:=E.mod) (fun _ _ h=>h) xs cargs hp hr;have hr2:Qe (bare (Qo P) E.w E.mod) xs cargs:=by
  refine Qe.of_get hr1.length ?_;intro i x v hx hv;obtain⟨v',hv',hxr⟩:=hr1.get hx;rw[hv] at hv';cases hv';refine Rel.dress (E:=bare E.tab E.w E.mod) (E' :=bare (Qo P) E.w E.mod) rfl rfl x v ?_ hxr;have:∀(l:List V),Qx l=true->∀(i:Nat) (x:V),l[i]?=some x->x.pure=true:=by
   intro l
   induction l with
   |nil=>intro _ i x h;simp at h
   |cons a l ih=>
    intro hl i x h;simp only[Qx,Zr1] at hl;cases i with
    |zero=>simp at h;subst h;exact hl.1
    |succ i=>simp at h;exact ih hl.2 i x h
  exact this xs hp i x hx
 have:=h.2 E.w E.mod cargs S.modsz hr2;refine this.mono ?_;rintro e w' ⟨c,rfl,hc,X⟩;have X' :Ext 0 E.w.heap.size (bare E.tab E.w E.mod) (bare E.tab w' E.mod):=Qof X rfl 0;obtain⟨X2,S2⟩:=S.behind X';exact⟨{E with w:=w' },rfl,⟨c,rfl,Rel.dress (E:=bare (Qo P) w' E.mod) (E' :={E with w:=w' }) rfl rfl _ _ h.1 hc⟩,S2,X2⟩
def Qya(K:List V->Option V):AM.Prim:=fun _ _ _ args=>match K args with
 |some v=>some (v,none)
 |none=>none
theorem Qxn{f:FuncId}{K:List V->Option V}(hK:∀xs y,K xs=some y->Qx xs=true/\Ans P f xs y)(B:Nat)(F:Nat->Nat->Prop)(H:Heap)(E:Env)(fr:Nat)(dst:Option Nat)(args:List V)(cargs:List Value)(v:V)(x:Option (Nat×Nat×O))
 (S:Sim B F H E)(_:fr<H.length)(hr:Qe E args cargs)(h:Qya K fr dst (Qd H) args=some (v,x)):AM.Invokes P f ⟨cargs⟩ E.w (AM.Answer B F H E (.ret v) (wr H x)):=by
 unfold Qya at h;split at h
 case h_2=>cases h
 rename_i v' hv;cases h;obtain⟨h1,h2⟩:=hK args v hv;exact(h2.take S h1 hr).mono fun e w' ⟨E',e1,e2,e3,e4⟩=>⟨E',e1,e2,e3,e4,Zrf _⟩
noncomputable def ansF(x:FR):Option V:=match x with
 | .ret v F=>frz (Xy F) depth v
 |_=>none
theorem Qux(ok:Okay P pol)(hl:Qdv pol){m:Nat}{f:FuncId}{xs:List V}{y:V}(h:ansF (Qoh P pol m (some f) xs ⟨0,.nil⟩)=some y)(hy:y.pure=true):Ans P f xs y:=by
 have:=Qhl (P:=P) hl m (some f) xs ⟨0,.nil⟩ [[]] ⟨[],rfl,fun s=>rfl,rfl⟩;revert this h;cases Qoh P pol m (some f) xs ⟨0,.nil⟩ with
 |ret v F=>
  rintro h ⟨H,e,hF⟩;simp only[ansF,hF.get] at h;exact Qvm ok e h hy
 |_=>intro h;cases h
end
section
variable {P : Program} {polA : AM.Pol}
theorem Q64(ok:AM.Okay P polA){f:FuncId}{xs:List V}{y:V}(h:Fz P polA f xs fun x=>x=y)(hy:y.pure=true):Ans P f xs y:=by obtain⟨v,H1,v',hc,hq,rfl⟩:=h;refine⟨hy,fun w M cargs hM hr=>?_⟩;obtain⟨hbody,hall⟩:=(Qd9 ok).1 f xs [] _ H1 hc;have hcall:=hall _ _ (bare (Qo P) w M) cargs (Qx4 _ w M hM) rfl hr;refine ok.invokes hbody (hcall.mono ?_);rintro e w' ⟨E1,rfl,⟨c,rfl,hcv⟩,S1,X1,_⟩;obtain⟨h1,h2⟩:=S1.frz hq hcv;exact⟨c,rfl,Rel.dress (E:=bare E1.tab E1.w M) (E' :=bare (Qo P) E1.w M) rfl rfl _ _ h2 h1,Qof X1 rfl 0⟩
def givenP(pol:AM.Pol)(K:FuncId->Option (List V->Option V)):AM.Pol:={pol with prim:=fun f=>match K f with
 |some k=>some (Qya k)
 |none=>pol.prim f}
theorem givenP_ok(ok:AM.Okay P polA){K:FuncId->Option (List V->Option V)}(hK:∀f k,K f=some k->∀xs y,k xs=some y->Qx xs=true/\Ans P f xs y):AM.Okay P (givenP polA K) where
 mixed:=ok.mixed
 draws:=ok.draws
 loops:=ok.loops
 num:=ok.num
 prim:=fun f g hg B F H E fr dst args cargs v x S hl hr h=>by
  simp only[givenP] at hg;split at hg
  . rename_i k hk;cases hg;exact Qxn (hK f k hk) B F H E fr dst args cargs v x S hl hr h
  . exact ok.prim f g hg B F H E fr dst args cargs v x S hl hr h
theorem given_op{pol:AM.Pol}{K:FuncId->Option (List V->Option V)}{k:List V->Option V}{C:AM.Call}{fn fr:Nat}{d:Option Nat}{f:FuncId}{args:List V}{H:Heap}{y:V}(hk:K f=some k)(h:k args=some y):
 AM.callOp (givenP pol K) C fn fr d f args H=some (.ret y,H):=by
 have e:(givenP pol K).prim f=some (Qya k):=by simp only[givenP,hk]
 simp only[AM.callOp,e,Qya,h,Zrb,wr]
noncomputable def fzK(P:Program)(polA:AM.Pol)(f:FuncId):List V->Option V:=fun xs=>
 open Classical in if h:Qx xs=true/\∃y:V,y.pure=true/\Fz P polA f xs fun x=>x=y then some (Classical.choose h.2) else none
theorem Zex{f:FuncId}{xs:List V}{y z:V}(h1:Fz P polA f xs fun x=>x=y)(h2:Fz P polA f xs fun x=>x=z):y=z:=by obtain⟨v,H,v',a,b,rfl⟩:=h1;obtain⟨w,H2,w',c,d,rfl⟩:=h2;rw[a] at c;cases c;rw[b] at d;cases d;rfl
theorem fzK_ok(ok:AM.Okay P polA){f:FuncId}:∀xs y,fzK P polA f xs=some y->Qx xs=true/\Ans P f xs y:=by
 intro xs y h;unfold fzK at h;split at h
 case isFalse=>cases h
 rename_i hh;cases h;have:=Classical.choose_spec hh.2;exact⟨hh.1,Q64 ok this.2 this.1⟩
theorem fzK_eq{f:FuncId}{xs:List V}{y:V}(h:Fz P polA f xs fun x=>x=y)(hx:Qx xs=true)(hy:y.pure=true):fzK P polA f xs=some y:=by have hh:Qx xs=true/\∃y:V,y.pure=true/\Fz P polA f xs fun x=>x=y:=⟨hx,y,hy,h⟩;unfold fzK;rw[dif_pos hh];exact congrArg some (Zex (Classical.choose_spec hh.2).2 h)
end
end Go.AM.BM
end
