/- This file holds in one the texts An7, An8, An9, An10; each says at its head what it proves. -/
import Derived.Test.YtmapmgfiamfocaaGreatT2
import Derived.Laws.BitsLemmas
set_option linter.unusedSimpArgs false
set_option linter.unusedVariables false
section
namespace Go.AM
variable {P : Program} {E : Env} {B : Nat} {F : Nat -> Nat -> Prop} {H : Qg}
theorem Qlp{t:TypeId}{x i y:V}{c ci:Value}(w:World)(h:Zs P t x i=some y)(hr:Rel E x c)(hi:Rel E i ci):
 ∃v,(Instr.indexAt t c ci).run P w= .ok v w/\Rel E y v:=by
 unfold Zs at h;split at h
 case h_2=>cases h
 rename_i k n;simp only[Rel] at hi;subst hi;split at h
 . rename_i m e hu;split at h
   case h_2=>cases h
   rename_i es hes;split at h
   case isFalse=>cases h
   rename_i hin;have run1:∀a:Addr,(Instr.indexAt t (.pointer (some a)) (.int k n)).run P w= .ok (.pointer (some (a.add (n.toNat*es)))) w:=by intro a;simp[Instr.indexAt,asIntOf,Qw hu,Instr.sureAddr,hin,K8 hes]
   split at h
   . cases h;simp only[Rel] at hr;obtain⟨b,hb,rfl⟩:=hr;refine⟨_,run1 _,?_⟩;simp only[Rel];exact⟨b,hb,by rw[Kk]⟩
   . cases h;simp only[Rel] at hr;obtain⟨b,off,vs,rfl,r1,r2,r3⟩:=hr;refine⟨_,run1 _,?_⟩;simp only[Rel];exact⟨b,off,vs,by rw[Kk,Zfq],r1,r2,r3⟩
   . cases h;simp only[Rel] at hr;obtain⟨b,off,vs,rfl,r1,r2⟩:=hr;refine⟨_,run1 _,?_⟩;simp only[Rel];exact⟨b,off,vs,by rw[Kk,Zfq],r1,r2⟩
   . cases h;simp only[Rel] at hr;obtain⟨b,rfl,r1,r2⟩:=hr;refine⟨_,run1 _,?_⟩;simp only[Rel];exact⟨b,by rw[Kk],r1,r2⟩
   . cases h
 . rename_i e hu;split at h
   case h_2=>cases h
   rename_i es hes;have run1:∀(a:Addr) (len cap:Nat),0<=n->n<len->(Instr.indexAt t (.slice (some a) len cap) (.int k n)).run P w= .ok (.pointer (some (a.add (n.toNat*es)))) w:=by intro a len cap h1 h2;have hin:0<=n/\n<len:=⟨h1,h2⟩;simp[Instr.indexAt,asIntOf,Qw hu,hin,K8 hes]
   split at h
   . rename_i cs len full;split at h
     case isFalse=>cases h
     rename_i hin;obtain⟨h1,h2,h3,h4⟩:=hin;cases h;simp only[Rel] at hr;obtain⟨a,cap,vs,rfl,_,_,r3,r4,r5⟩:=hr;refine⟨_,run1 a len cap h1 h2,?_⟩;have hne:vs≠[]:=by intro e;have:=r4.length;rw[e,h3] at this;have:0<len*es:=Nat.mul_pos (by omega) h4;simp at*;omega
     rcases r3 with r3|⟨r3,r6⟩
     . exact absurd r3 hne
     . obtain⟨b,off,sp⟩:=a;simp only at r3;subst r3;simp only[Rel];exact⟨b,off,vs,by rw[Kk],r6,r4,r5⟩
   . rename_i f s cs len e';split at h
     case isFalse=>cases h
     rename_i hin;obtain⟨h1,h2,rfl⟩:=hin;cases h;simp only[Rel] at hr;obtain⟨b,off,cap,vs,rfl,_,r3,r4,_⟩:=hr;refine⟨_,run1 _ len cap h1 h2,?_⟩;split
     . rename_i r5;simp only[Rel];exact⟨b,off,vs,by rw[Kk],r3,r4,r5⟩
     . simp only[Rel];exact⟨b,off,vs,by rw[Kk],r3,r4⟩
   . rename_i f s o len cap e';split at h
     case isFalse=>cases h
     rename_i hin;obtain⟨h1,h2,rfl⟩:=hin;cases h;simp only[Rel] at hr;obtain⟨b,c',T,sz',hmu,rfl,_⟩:=hr;refine⟨_,run1 _ len c' h1 h2,?_⟩;simp only[Rel];exact⟨b,hmu,by rw[Kk]⟩
   . rename_i f s len e';split at h
     case isFalse=>cases h
     rename_i hin;obtain⟨h1,h2,rfl⟩:=hin;cases h;simp only[Rel] at hr;obtain⟨b,cap,rfl,_,hmu,hreg⟩:=hr;refine⟨_,run1 _ len cap h1 h2,?_⟩;simp only[Rel];exact⟨b,by rw[Kk,Zff],hmu,fun n b' lo hi e=>⟨(hreg n b' lo hi e).1,fun e2=>((hreg n b' lo hi e).2 e2).1⟩⟩
   . cases h
 . cases h
theorem Qsl{t:TypeId}{x i y:V}{c ci:Value}(w:World)(h:Qg2 P t x i=some y)(hr:Rel E x c)(hi:Rel E i ci):
 ∃v,(Instr.index t c ci).run P w= .ok v w/\Rel E y v:=by
 unfold Qg2 at h;split at h
 case h_2=>cases h
 rename_i k n;simp only[Rel] at hi;subst hi;split at h
 . rename_i m e cs hu;split at h
   case h_2=>cases h
   rename_i es hes;split at h
   case isFalse=>cases h
   rename_i hin;simp only[Rel] at hr;obtain⟨vs,rfl,hl⟩:=hr;obtain⟨v,h1,h2⟩:=Qbu (w:=w) h hl;exact⟨v,by simp[Instr.index,asIntOf,Qw hu,hin,K8 hes,h1],h2⟩
 . rename_i s hu;split at h
   case isFalse=>cases h
   rename_i hin;simp only[Rel] at hr;subst hr;cases hs:s[n.toNat]? with
   |none=>rw[hs] at h;cases h
   |some b=>
    rw[hs] at h;cases h;have e:(⟨⟨s⟩⟩:ByteArray)[n.toNat]?=some b:=by have hlt:n.toNat<(⟨⟨s⟩⟩:ByteArray).size:=(Zf0.1 hs).1;rw[ByteArray.getElem?_lt' _ _ hlt];have:=(Zf0.1 hs).2;exact congrArg some this
    exact⟨.int .u8 b.toNat,by simp[Instr.index,asIntOf,Qw hu,hin,e],by simp[Rel]⟩
 . cases h
theorem Qh8(a b:List UInt8):((⟨⟨a⟩⟩:ByteArray)==(⟨⟨b⟩⟩:ByteArray))=(a==b):=by show((⟨a⟩:Array UInt8)==⟨b⟩)=(a==b);rw[Bool.eq_iff_iff];simp
section
variable {eq : TypeId -> V -> V -> Option Bool} {d : Nat} (w : World)
 (ih:∀(t:TypeId) (x y:V) (b:Bool) (c e:Value),eq t x y=some b->Rel E x c->Rel E y e->(Op.equalIn d t c e).run P w= .ok b w)
include ih
theorem Qpb:
 ∀(fs:List Field) (xs ys:List V) (vs us:List Value) (b:Bool),Qdc P eq fs xs ys=some b->Qr E xs vs->Qr E ys us->
  (forIn (m:=Sem) fs ((none,()):Option Bool×Unit) fun f _=>(do
    if f.name≠ "_" then do
     let x<-part f.type ⟨vs⟩ f.offset
     let y<-part f.type ⟨us⟩ f.offset
     let r<-Op.equalIn d f.type x y
     if(!r)=true then pure (ForInStep.done (some false,())) else pure (ForInStep.yield (none,()))
    else pure (ForInStep.yield (none,())))).run P w= .ok (if b then none else some false,()) w:=by
 intro fs
 induction fs with
 |nil=>intro xs ys vs us b h _ _;simp only[Qdc,Zic] at h;subst h;rfl
 |cons f fs ihf=>
  intro xs ys vs us b h hx hy;simp only[Qdc] at h;by_cases hn:f.name= "_"
  . rw[if_pos hn] at h;have h1:=ihf xs ys vs us b h hx hy;simp only[List.forIn_cons,hn,ne_eq,not_true,if_false,pure_bind];exact h1
  . rw[if_neg hn] at h;split at h
    case h_2=>cases h
    rename_i x y px py;obtain⟨c,pc,rc⟩:=Qbu (w:=w) px hx;obtain⟨e,pe,re⟩:=Qbu (w:=w) py hy;split at h
    . rename_i he;have h1:=ihf xs ys vs us b h hx hy;have:=ih _ _ _ _ _ _ he rc re;simp only[List.forIn_cons,hn,ne_eq,not_false_eq_true,if_true,Zie,pc,pe,Zid,this,Zhf,Ze7,if_false,Zif];exact h1
    . rename_i he;cases h;have:=ih _ _ _ _ _ _ he rc re;simp only[List.forIn_cons,hn,ne_eq,not_false_eq_true,if_true,Zie,pc,pe,Zid,this,Zgo,Zif];rfl
    . cases h
theorem Qqd(ty:TypeId)(m:Nat):
 ∀(n i:Nat) (xs ys:List V) (vs us:List Value) (b:Bool),Qki P eq ty m xs ys i n=some b->Qr E xs vs->Qr E ys us->
  (forIn (m:=Sem) (List.range' i n) ((none,()):Option Bool×Unit) fun i _=>(do
    let x<-part ty ⟨vs⟩ (i*m)
    let y<-part ty ⟨us⟩ (i*m)
    let r<-Op.equalIn d ty x y
    if(!r)=true then pure (ForInStep.done (some false,())) else pure (ForInStep.yield (none,())))).run P w= .ok (if b then none else some false,()) w:=by
 intro n
 induction n with
 |zero=>intro i xs ys vs us b h _ _;simp only[Qki,Zic] at h;subst h;rfl
 |succ n ihn=>
  intro i xs ys vs us b h hx hy;simp only[Qki] at h;split at h
  case h_2=>cases h
  rename_i x y px py;obtain⟨c,pc,rc⟩:=Qbu (w:=w) px hx;obtain⟨e,pe,re⟩:=Qbu (w:=w) py hy;split at h
  . rename_i he;have h1:=ihn (i+1) xs ys vs us b h hx hy;have:=ih _ _ _ _ _ _ he rc re;simp only[Zh5,List.forIn_cons,Zie,pc,pe,Zid,this,Zhf,Ze7,if_false,Zif];exact h1
  . rename_i he;cases h;have:=ih _ _ _ _ _ _ he rc re;simp only[Zh5,List.forIn_cons,Zie,pc,pe,Zid,this,Zgo,if_true,Zif];rfl
  . cases h
end
theorem Q0j(w:World):∀(n:Nat) (t:TypeId) (x y:V) (b:Bool) (c e:Value) (d:Nat),n<=d->eqV P n t x y=some b->Rel E x c->Rel E y e->
 (Op.equalIn d t c e).run P w= .ok b w:=by
 intro n
 induction n with
 |zero=>intro t x y b c e d _ h;simp[eqV] at h
 |succ n ih=>
  intro t x y b c e d hd h hx hy;obtain⟨d,rfl⟩:∃d',d=d' +1:=⟨d-1,by omega⟩;have ih' :∀(t:TypeId) (x y:V) (b:Bool) (c e:Value),eqV P n t x y=some b->Rel E x c->Rel E y e->(Op.equalIn d t c e).run P w= .ok b w:=
   fun t x y b c e=>ih t x y b c e d (by omega)
  simp only[eqV] at h;split at h
  . rename_i hu;unfold Qr8 at h;split at h
    . cases h;simp only[Rel] at hx hy;subst hx;subst hy;simp[Op.equalIn,Qw hu]
    . cases h
  . rename_i hu;unfold Qr1 at h;split at h
    . split at h
      . rename_i hk;cases h;simp only[Rel] at hx hy;subst hx;subst hy;simp[Op.equalIn,Qw hu,hk]
      . cases h
    . cases h
  . rename_i hu;unfold Qri at h;split at h
    . rename_i a a';cases h;simp only[Rel] at hx hy;subst hx;subst hy;simp[Op.equalIn,Qw hu,Qh8]
    . cases h
  . rename_i fs hu;split at h
    case h_2=>cases h
    rename_i xs ys;split at h
    . cases h
    . rename_i hst;simp only[Rel] at hx hy;obtain⟨vs,rfl,hx⟩:=hx;obtain⟨us,rfl,hy⟩:=hy;have:=Qpb (P:=P) w ih' fs.toList xs ys vs us b h hx hy;simp only[Op.equalIn,Zie,Qw hu,Zid,run_program,hst,Ze7,if_false];rw[<-Array.forIn_toList,this];cases b<;>rfl
  . rename_i m el hu;split at h
    case h_2=>cases h
    rename_i xs ys k hk;simp only[Rel] at hx hy;obtain⟨vs,rfl,hx⟩:=hx;obtain⟨us,rfl,hy⟩:=hy;have:=Qqd (P:=P) w ih' el k m 0 xs ys vs us b h hx hy;simp only[Op.equalIn,Zie,Qw hu,Zid,K8 hk];rw[Std.Legacy.Range.forIn_eq_forIn_range'];simp only[Std.Legacy.Range.size,Nat.sub_zero,Nat.add_sub_cancel,Nat.div_one];rw[this];cases b<;>rfl
  . cases h
def Qj1(c:Value)(nb:Bool):TypeDesc->Prop
 | .pointer _=>if nb then c= .pointer none else∃a,c= .pointer (some a)
 | .slice _=>if nb then c= .slice none 0 0 else∃a l k,c= .slice (some a) l k
 | .map _ _=>if nb then c= .map none else∃b,c= .map (some b)
 | .func _ _ _=>if nb then c= .nilFunc else∃f a b,c= .func f a b
 | .interface _=>if nb then c= .nilIface else∃t v,c= .iface t v
 |_=>False
theorem Qkb{d:TypeDesc}{x:V}{c:Value}(hx:J4 d x=true)(rx:Rel E x c):∃nb,x.isNil=some nb/\Qj1 c nb d:=by
 cases x<;>simp only[Rel] at rx
 case nP=>cases d<;>simp only[J4,Ze7] at hx;exact⟨true,rfl,rx⟩
 case ptr=>cases d<;>simp only[J4,Ze7] at hx;obtain⟨b,_,rfl⟩:=rx;exact⟨false,rfl,_,rfl⟩
 case iptr=>cases d<;>simp only[J4,Ze7] at hx;obtain⟨b,_,_,rfl,_⟩:=rx;exact⟨false,rfl,_,rfl⟩
 case rptr=>cases d<;>simp only[J4,Ze7] at hx;obtain⟨b,_,_,rfl,_⟩:=rx;exact⟨false,rfl,_,rfl⟩
 case nS=>cases d<;>simp only[J4,Ze7] at hx;exact⟨true,rfl,rx⟩
 case iS=>cases d<;>simp only[J4,Ze7] at hx;obtain⟨_,_,_,rfl,_⟩:=rx;exact⟨false,rfl,_,_,_,rfl⟩
 case gS=>cases d<;>simp only[J4,Ze7] at hx;obtain⟨_,_,_,_,rfl,_⟩:=rx;exact⟨false,rfl,_,_,_,rfl⟩
 case mS=>cases d<;>simp only[J4,Ze7] at hx;obtain⟨_,_,_,_,_,rfl,_⟩:=rx;exact⟨false,rfl,_,_,_,rfl⟩
 case nM=>cases d<;>simp only[J4,Ze7] at hx;exact⟨true,rfl,rx⟩
 case map=>cases d<;>simp only[J4,Ze7] at hx;obtain⟨_,_,rfl⟩:=rx;exact⟨false,rfl,_,rfl⟩
 case nF=>cases d<;>simp only[J4,Ze7] at hx;exact⟨true,rfl,rx⟩
 case func=>cases d<;>simp only[J4,Ze7] at hx;obtain⟨_,_,rfl,_⟩:=rx;exact⟨false,rfl,_,_,_,rfl⟩
 case nI=>cases d<;>simp only[J4,Ze7] at hx;exact⟨true,rfl,rx⟩
 case face=>cases d<;>simp only[J4,Ze7] at hx;obtain⟨_,rfl,_⟩:=rx;exact⟨false,rfl,_,_,rfl⟩
 all_goals (cases d<;>simp only[J4,Ze7] at hx)
theorem Ql6(w:World){t:TypeId}{d:TypeDesc}{x y:V}{c e:Value}{b:Bool}(k:Nat)(hu:P.underlying t=some d)(hx:J4 d x=true)(hy:J4 d y=true)
 (h:Qmq x y=some b)(rx:Rel E x c)(ry:Rel E y e):(Op.equalIn (k+1) t c e).run P w= .ok b w:=by
 obtain⟨n1,i1,s1⟩:=Qkb hx rx;obtain⟨n2,i2,s2⟩:=Qkb hy ry;simp only[Qmq,i1,i2] at h;cases d<;>simp only[Qj1] at s1 s2<;>cases n1<;>cases n2<;>simp only[Zic,reduceCtorEq,if_true,if_false,Ze7] at h s1 s2<;>subst h
 case pointer.false.true=>obtain⟨_,rfl⟩:=s1;subst s2;simp[Op.equalIn,Qw hu]
 case pointer.true.false=>obtain⟨_,rfl⟩:=s2;subst s1;simp[Op.equalIn,Qw hu]
 case pointer.true.true=>subst s1;subst s2;simp[Op.equalIn,Qw hu]
 case slice.false.true=>obtain⟨_,_,_,rfl⟩:=s1;subst s2;simp[Op.equalIn,Qw hu]
 case slice.true.false=>obtain⟨_,_,_,rfl⟩:=s2;subst s1;simp[Op.equalIn,Qw hu]
 case slice.true.true=>subst s1;subst s2;simp[Op.equalIn,Qw hu]
 case map.false.true=>obtain⟨_,rfl⟩:=s1;subst s2;simp[Op.equalIn,Qw hu]
 case map.true.false=>obtain⟨_,rfl⟩:=s2;subst s1;simp[Op.equalIn,Qw hu]
 case map.true.true=>subst s1;subst s2;simp[Op.equalIn,Qw hu]
 case func.false.true=>obtain⟨_,_,_,rfl⟩:=s1;subst s2;simp[Op.equalIn,Qw hu]
 case func.true.false=>obtain⟨_,_,_,rfl⟩:=s2;subst s1;simp[Op.equalIn,Qw hu]
 case func.true.true=>subst s1;subst s2;simp[Op.equalIn,Qw hu]
 case interface.false.true=>obtain⟨_,_,rfl⟩:=s1;subst s2;simp[Op.equalIn,Qw hu]
 case interface.true.false=>obtain⟨_,_,rfl⟩:=s2;subst s1;simp[Op.equalIn,Qw hu]
 case interface.true.true=>subst s1;subst s2;simp[Op.equalIn,Qw hu]
theorem Q70(x y:Operand):(Qel x||Qel y)=true->((match x with| .const _=>true|_=>false)||(match y with| .const _=>true|_=>false))=true:=by
 intro h;simp only[Zgj] at h;rcases h with h|h
 . cases x<;>simp_all[Qel]
 . cases y<;>simp_all[Qel]
theorem Qeu(w:World)(op:BinOp)(t:TypeId)(x y:Operand)(ca cb:Value)(hn:ca= .nilIface->cb= .nilIface->(Qel x||Qel y)=true)
 (hg:∀xs ys,ca= .agg xs->cb= .agg ys->P.eqGuardType P.depth t=false):(eqGuard op t x y ca cb).run P w= .ok () w:=by
 unfold eqGuard;rw[Sem.run_ite];split
 case h_3=>rfl
 all_goals
  simp only[Zhf,Ze7,if_false];split
  . have:=Q70 x y (hn rfl rfl);rw[Sem.run_ite,if_pos]
    . rfl
    . exact this
  . simp only[Zie,run_program,Zid,hg _ _ rfl rfl,Zgo,if_true,Zif]
  . rfl
theorem Qo2(w:World){t:TypeId}{x y:Operand}{a b:V}{ca cb:Value}{r:Bool}(op:BinOp)(h:Qjr P t x y a b=some r)(ra:Rel E a ca)(rb:Rel E b cb):
 (eqGuard op t x y ca cb).run P w= .ok () w/\(Op.equal t ca cb).run P w= .ok r w:=by
 have deep:eqV P 8 t a b=some r->(∀xs ys,ca= .agg xs->cb= .agg ys->P.eqGuardType P.depth t=false)->(ca≠ .nilIface)->
  (eqGuard op t x y ca cb).run P w= .ok () w/\(Op.equal t ca cb).run P w= .ok r w:=
  fun he hg hn=>⟨Qeu w op t x y ca cb (fun h=>absurd h hn) hg,Q0j w 8 t a b r ca cb _ (by decide) he ra rb⟩
 unfold Qjr at h;split at h
 . rename_i fs hu;split at h
   . cases h
   . rename_i hg;refine deep h (fun _ _ _ _=>by simpa using hg) ?_;simp only[eqV,hu] at h;split at h
     . simp only[Rel] at ra;obtain⟨_,rfl,_⟩:=ra;exact fun h=>by cases h
     . cases h
 . rename_i n e hu;split at h
   . cases h
   . rename_i hg;refine deep h (fun _ _ _ _=>by simpa using hg) ?_;simp only[eqV,hu] at h;split at h
     . simp only[Rel] at ra;obtain⟨_,rfl,_⟩:=ra;exact fun h=>by cases h
     . cases h
 . rename_i hu;have he:=h;simp only[eqV,hu,Qr8] at he;split at he
   . simp only[Rel] at ra;subst ra;exact deep h (fun _ _ e=>by cases e) (fun e=>by cases e)
   . cases he
 . rename_i hu;have he:=h;simp only[eqV,hu,Qr1] at he;split at he
   . simp only[Rel] at ra;subst ra;exact deep h (fun _ _ e=>by cases e) (fun e=>by cases e)
   . cases he
 . rename_i hu;have he:=h;simp only[eqV,hu,Qri] at he;split at he
   . simp only[Rel] at ra;subst ra;exact deep h (fun _ _ e=>by cases e) (fun e=>by cases e)
   . cases he
 . rename_i d _ _ _ _ _ hu;split at h
   case isFalse=>cases h
   rename_i hk;simp only[Zfr] at hk;have shapes:∀(z:V) (c:Value),J4 d z=true->Rel E z c->(∀xs,c≠ .agg xs)/\(c= .nilIface->z= .nI):=by
    intro z c hz rz;obtain⟨nb,i1,s1⟩:=Qkb hz rz;cases d<;>simp only[Qj1] at s1<;>cases nb<;>simp only[if_true,if_false,Ze7] at s1
    case interface.true=>subst s1;exact⟨(fun _ e=>by cases e),(fun _=>by cases z<;>simp only[J4,Ze7] at hz<;>simp only[V.isNil,Zic,reduceCtorEq] at i1;rfl)⟩
    all_goals first
     |(subst s1;exact⟨(fun _ e=>by cases e),(fun e=>by cases e)⟩)
     |(obtain⟨_,rfl⟩:=s1;exact⟨(fun _ e=>by cases e),(fun e=>by cases e)⟩)
     |(obtain⟨_,_,rfl⟩:=s1;exact⟨(fun _ e=>by cases e),(fun e=>by cases e)⟩)
     |(obtain⟨_,_,_,rfl⟩:=s1;exact⟨(fun _ e=>by cases e),(fun e=>by cases e)⟩)
   have noAgg:=(shapes a ca hk.1 ra).1;split at h
   . split at h
     case isFalse=>cases h
     rename_i hc;cases h;exact⟨Qeu w op t x y ca cb (fun _ _=>hc) (fun xs _ e=>absurd e (noAgg xs)),Ql6 w 9999 hu hk.1 hk.2 rfl ra rb⟩
   . rename_i hnn;exact⟨Qeu w op t x y ca cb (fun e1 e2=>(hnn ((shapes a ca hk.1 ra).2 e1) ((shapes b cb hk.2 rb).2 e2)).elim) (fun xs _ e=>absurd e (noAgg xs)),Ql6 w 9999 hu hk.1 hk.2 h ra rb⟩
 . cases h
end Go.AM
namespace Go.AM
variable {P : Program} {E : Env} {B : Nat} {F : Nat -> Nat -> Prop} {H : Qg}
theorem Qei(w:World)(op:BinOp)(t:TypeId)(x y:Operand)(ca cb:Value)(h1:ca≠ .nilIface)(h2:∀xs,ca≠ .agg xs):(eqGuard op t x y ca cb).run P w= .ok () w:=
 Qeu w op t x y ca cb (fun e=>absurd e h1) (fun xs _ e=>absurd e (h2 xs))
theorem Js.length{E:Env}:∀{es:List (V×V)} {ces:List MapEntry},Js E es ces->es.length=ces.length
 |[],_,h=>by simp only[Js] at h;subst h;rfl
 |(_,_)::es,_,⟨e,r,h,_,_,h3⟩=>by subst h;simp[Js.length h3]
def Qi7:Value->Prop
 | .agg _| .bool _| .pointer _| .slice _ _ _| .map _| .func _ _ _| .nilFunc| .nilIface| .iface _ _=>True
 |_=>False
theorem Qk3(t:TypeId)(c e:Value)(h1:Qi7 c)(h2:Qi7 e):
 binOp .eql t c e=(do pure (.bool (<-Op.equal t c e)))/\binOp .neq t c e=(do pure (.bool (!(<-Op.equal t c e)))):=by
 cases c<;>simp only[Qi7] at h1<;>cases e<;>simp only[Qi7] at h2<;>exact⟨rfl,rfl⟩
theorem Qmh{t:TypeId}{x y:Operand}{a b:V}{ca cb:Value}{r:Bool}(h:Qjr P t x y a b=some r)(ra:Rel E a ca)(rb:Rel E b cb):
 (∃k m k' n,a= .int k m/\b= .int k' n)\/(∃s s',a= .str s/\b= .str s')\/(Qi7 ca/\Qi7 cb):=by
 unfold Qjr at h;split at h
 . rename_i fs hu;split at h
   . cases h
   . simp only[eqV,hu] at h;split at h
     . simp only[Rel] at ra rb;obtain⟨_,rfl,_⟩:=ra;obtain⟨_,rfl,_⟩:=rb;exact .inr (.inr ⟨trivial,trivial⟩)
     . cases h
 . rename_i fs hu;split at h
   . cases h
   . simp only[eqV,hu] at h;split at h
     . simp only[Rel] at ra rb;obtain⟨_,rfl,_⟩:=ra;obtain⟨_,rfl,_⟩:=rb;exact .inr (.inr ⟨trivial,trivial⟩)
     . cases h
 . rename_i hu;simp only[eqV,hu,Qr8] at h;split at h
   . simp only[Rel] at ra rb;subst ra;subst rb;exact .inr (.inr ⟨trivial,trivial⟩)
   . cases h
 . rename_i hu;simp only[eqV,hu,Qr1] at h;split at h
   . exact .inl ⟨_,_,_,_,rfl,rfl⟩
   . cases h
 . rename_i hu;simp only[eqV,hu,Qri] at h;split at h
   . exact .inr (.inl ⟨_,_,rfl,rfl⟩)
   . cases h
 . rename_i d _ _ _ _ _ hu;split at h
   case isFalse=>cases h
   rename_i hk;simp only[Zfr] at hk;have:∀(z:V) (c:Value),J4 d z=true->Rel E z c->Qi7 c:=by
    intro z c hz rz;obtain⟨nb,i1,s1⟩:=Qkb hz rz;cases d<;>simp only[Qj1] at s1<;>cases nb<;>simp only[if_true,if_false,Ze7] at s1
    all_goals first
     |(subst s1;trivial)
     |(obtain⟨_,rfl⟩:=s1;trivial)
     |(obtain⟨_,_,rfl⟩:=s1;trivial)
     |(obtain⟨_,_,_,rfl⟩:=s1;trivial)
   exact .inr (.inr ⟨this _ _ hk.1 ra,this _ _ hk.2 rb⟩)
 . cases h
theorem Qxo(w:World){op:BinOp}{t:TypeId}{x y:Operand}{a b r:V}{ca cb:Value}(h:X7 P op t x y a b=some r)(ra:Rel E a ca)(rb:Rel E b cb):
 ∃v,(do eqGuard op t x y ca cb;binOp op t ca cb:Sem Value).run P w= .ok v w/\Rel E r v:=by
 unfold X7 at h;split at h
 . simp only[Rel] at ra rb;subst ra;subst rb;obtain⟨v,h1,h2⟩:=Qk5 (P:=P) (E:=E) (w:=w) h;refine⟨v,?_,h2⟩;rw[Zie,Qei w _ t x y _ _ (fun e=>by cases e) (fun _ e=>by cases e)];simp only[Zid,binOp];exact h1
 . simp only[Rel] at ra rb;subst ra;subst rb;obtain⟨v,h1,h2⟩:=Qk5 (P:=P) (E:=E) (w:=w) h;refine⟨v,?_,h2⟩;rw[Zie,Qei w _ t x y _ _ (fun e=>by cases e) (fun _ e=>by cases e)];simp only[Zid,binOp];exact h1
 . split at h
   case isFalse=>cases h
   rename_i hk;subst hk;simp only[Rel] at ra rb;subst ra;subst rb;obtain⟨v,h1,h2⟩:=Qx8 (P:=P) (E:=E) (w:=w) t h;refine⟨v,?_,h2⟩;rw[Zie,Qei w _ t x y _ _ (fun e=>by cases e) (fun _ e=>by cases e)];exact h1
 . simp only[Rel] at ra rb;subst ra;subst rb;obtain⟨v,h1,h2⟩:=Qxa (P:=P) (E:=E) (w:=w) h;refine⟨v,?_,h2⟩;rw[Zie,Qei w _ t x y _ _ (fun e=>by cases e) (fun _ e=>by cases e)];simp only[Zid];cases op<;>exact h1
 . rename_i hni hns;cases he:Qjr P t x y a b with
   |none=>rw[he] at h;cases h
   |some q=>
    rw[he] at h;cases h;obtain⟨h1,h2⟩:=Qo2 w .eql he ra rb;refine⟨.bool q,?_,by simp[Rel]⟩;rcases Qmh he ra rb with⟨k,m,k',n,rfl,rfl⟩|⟨s,s',rfl,rfl⟩|⟨e1,e2⟩
    . exact(hni _ _ _ _ rfl rfl).elim
    . exact(hns _ _ rfl rfl).elim
    . rw[Zie,h1];simp only[Zid,(Qk3 t ca cb e1 e2).1,Zie,h2,Zif]
 . rename_i hni hns;cases he:Qjr P t x y a b with
   |none=>rw[he] at h;cases h
   |some q=>
    rw[he] at h;cases h;obtain⟨h1,h2⟩:=Qo2 w .neq he ra rb;refine⟨.bool (!q),?_,by simp[Rel]⟩;rcases Qmh he ra rb with⟨k,m,k',n,rfl,rfl⟩|⟨s,s',rfl,rfl⟩|⟨e1,e2⟩
    . exact(hni _ _ _ _ rfl rfl).elim
    . exact(hns _ _ rfl rfl).elim
    . rw[Zie,h1];simp only[Zid,(Qk3 t ca cb e1 e2).2,Zie,h2,Zif]
 . cases h
theorem Kl{w:World}{r:Nat}{es:Array MapEntry}{clk:Nat}(hb:w.heap[r]?=some (.map es clk)):(getObj r).run P w= .ok (.map es clk) w:=by simp only[getObj,Sem.run,hb]
theorem Qbr{w:World}{r:Nat}{es:Array MapEntry}{clk:Nat}(hb:w.heap[r]?=some (.map es clk))(o:Obj):
 (setObj r o).run P w= .ok () {w with heap:=w.heap.setIfInBounds r o}:=by
 simp only[setObj,Sem.run,hb]
theorem Qx7(S:Sim B F H E){ts:Array TypeId}{t:TypeId}(ty:TypeId){x y:V}{c:Value}(ht:ts[0]?=some t)(h:Qaw P (Qd H) t x=some y)(hr:Rel E x c):
 ∃v,(Builtin.len_ ts ty #[c]).run P E.w= .ok v E.w/\Rel E y v:=by
 unfold Qaw at h;split at h
 . rename_i s hu;cases h;simp only[Rel] at hr;subst hr;exact⟨goInt s.length,by simp[Builtin.len_,ht,Qw hu];rfl,by simp[Rel,goInt]⟩
 . rename_i n e hu;cases h;exact⟨goInt n,by simp[Builtin.len_,ht,Qw hu],by simp[Rel,goInt]⟩
 . rename_i a hu;split at h
   case h_2=>cases h
   rename_i n e hu2;cases h;exact⟨goInt n,by simp[Builtin.len_,ht,Qw hu,Qw hu2],by simp[Rel,goInt]⟩
 . rename_i hu;cases h;simp only[Rel] at hr;subst hr;exact⟨goInt 0,by simp[Builtin.len_,ht,Qw hu],by simp[Rel,goInt]⟩
 . rename_i hu;cases h;simp only[Rel] at hr;obtain⟨a,cap,vs,rfl,_⟩:=hr;exact⟨goInt _,by simp[Builtin.len_,ht,Qw hu];rfl,by simp[Rel,goInt]⟩
 . rename_i hu;cases h;simp only[Rel] at hr;obtain⟨b,off,cap,vs,rfl,_⟩:=hr;exact⟨goInt _,by simp[Builtin.len_,ht,Qw hu];rfl,by simp[Rel,goInt]⟩
 . rename_i hu;cases h;simp only[Rel] at hr;obtain⟨b,c',T,n',_,rfl,_⟩:=hr;exact⟨goInt _,by simp[Builtin.len_,ht,Qw hu];rfl,by simp[Rel,goInt]⟩
 . rename_i hu;cases h;simp only[Rel] at hr;obtain⟨b,cap,rfl,_⟩:=hr;exact⟨goInt _,by simp[Builtin.len_,ht,Qw hu];rfl,by simp[Rel,goInt]⟩
 . rename_i hu;cases h;simp only[Rel] at hr;subst hr;exact⟨goInt 0,by simp[Builtin.len_,ht,Qw hu],by simp[Rel,goInt]⟩
 . rename_i f s hu;split at h
   case h_2=>cases h
   rename_i es bs clk hg;cases h;simp only[Rel] at hr;obtain⟨b,hb,rfl⟩:=hr;obtain⟨b',ces,g1,_,g3,g4,_⟩:=S.obj f s _ hg;rw[hb] at g1;cases g1;have hl:=g4.length;refine⟨goInt ces.size,?_,by simp[Rel,goInt,hl]⟩;simp[Builtin.len_,ht,Qw hu,Kl g3]
 . cases h
theorem Qyw{ts:Array TypeId}{t:TypeId}(ty:TypeId){x y:V}{c:Value}(ht:ts[0]?=some t)(h:capV P t x=some y)(hr:Rel E x c):
 ∃v,(Builtin.cap_ ts ty #[c]).run P E.w= .ok v E.w/\Rel E y v:=by
 unfold capV at h;split at h
 . rename_i hu;cases h;simp only[Rel] at hr;subst hr;exact⟨goInt 0,by simp[Builtin.cap_,ht,Qw hu],by simp[Rel,goInt]⟩
 . rename_i n hu;cases h;simp only[Rel] at hr;obtain⟨a,cap,vs,rfl,_,hf,_⟩:=hr;have:=hf trivial;subst this;exact⟨goInt _,by simp[Builtin.cap_,ht,Qw hu];rfl,by simp[Rel,goInt]⟩
 . rename_i k _ hu;cases h;simp only[Rel] at hr;obtain⟨b,c',T,n',_,rfl,_,hk,_⟩:=hr;have:=hk _ rfl;subst this;exact⟨goInt _,by simp[Builtin.cap_,ht,Qw hu];rfl,by simp[Rel,goInt]⟩
 . cases h
theorem Qpd(w:World):∀(l:List V) (vs:List Value) (x y:V) (c:Value),Qga false x l=some y->Rel E x c->Qr E l vs->
 ∃v,(vs.foldlM Builtin.min2 c).run P w= .ok v w/\Rel E y v
 |[],vs,x,y,c,h,hr,hl=>by
  rw[Qr.nil_iff] at hl;subst hl;have e:∀b,Qga b x []=some x:=fun b=>by cases x<;>rfl
  rw[e] at h;cases h;exact⟨c,rfl,hr⟩
 |z::l,vs,x,y,c,h,hr,hl=>by
  obtain⟨u,r,rfl,hu,hl2⟩:=Qr.cons_iff.1 hl;clear hl;unfold Qga at h;split at h
  . rename_i e;cases e
  . rename_i e;injection e with e1 e2;subst e1;subst e2;simp only[Rel] at hr hu;subst hr;subst hu;obtain⟨v,h1,h2⟩:=Qpd w _ r _ y _ h (by simp only[Rel];rfl) hl2;exact⟨v,by simp only[List.foldlM_cons,Zie,Builtin.min2,Zif,Zid];simpa using h1,h2⟩
  . cases h
theorem Qo0(w:World):∀(l:List V) (vs:List Value) (x y:V) (c:Value),Qga true x l=some y->Rel E x c->Qr E l vs->
 ∃v,(vs.foldlM Builtin.max2 c).run P w= .ok v w/\Rel E y v
 |[],vs,x,y,c,h,hr,hl=>by
  rw[Qr.nil_iff] at hl;subst hl;have e:∀b,Qga b x []=some x:=fun b=>by cases x<;>rfl
  rw[e] at h;cases h;exact⟨c,rfl,hr⟩
 |z::l,vs,x,y,c,h,hr,hl=>by
  obtain⟨u,r,rfl,hu,hl2⟩:=Qr.cons_iff.1 hl;clear hl;unfold Qga at h;split at h
  . rename_i e;cases e
  . rename_i e;injection e with e1 e2;subst e1;subst e2;simp only[Rel] at hr hu;subst hr;subst hu;obtain⟨v,h1,h2⟩:=Qo0 w _ r _ y _ h (by simp only[Rel];rfl) hl2;exact⟨v,by simp only[List.foldlM_cons,Zie,Builtin.max2,Zif,Zid];simpa using h1,h2⟩
  . cases h
end Go.AM
namespace Go.AM
variable {P : Program} {E : Env} {B : Nat} {F : Nat -> Nat -> Prop} {H : Qg}
theorem Qm8{kd:TypeDesc}{k k' :V}{ck ck' :Value}{b:Bool}(hp:Yo kd k=true)(h:Qmx k k' =some b)(r1:Rel E k ck)(r2:Rel E k' ck'):Instr.sameNow kd ck ck' =some b:=by
 unfold Qmx at h;split at h
 . split at h
   case isFalse=>cases h
   rename_i hk;cases h;simp only[Rel] at r1 r2;subst r1;subst r2;cases kd<;>simp only[Yo,Ze7] at hp;simp[Instr.sameNow,hk]
 . cases h;simp only[Rel] at r1 r2;subst r1;subst r2;cases kd<;>simp only[Yo,Ze7] at hp;simp only[Instr.sameNow,Qh8]
 . cases h;simp only[Rel] at r1 r2;subst r1;subst r2;cases kd<;>simp only[Yo,Ze7] at hp;rfl
 . cases h
theorem Ku{kd:TypeDesc}{k:V}{ck:Value}(hp:Yo kd k=true)(rk:Rel E k ck):
 ∀(es:List (V×V)) (ces:List MapEntry) (i:Nat) (r:Option (Nat×V)),findKey k es i=some r->Js E es ces->
  ∃r',Instr.findNow kd ck ces i=some r' /\((r=none/\r' =none)\/∃j x v,r=some (j,x)/\r' =some (j,v)/\Rel E x v/\i<=j/\j<i+es.length)
 |[],ces,i,r,h,hm=>by
  simp only[Js] at hm;subst hm;cases h;exact⟨none,rfl,.inl ⟨rfl,rfl⟩⟩
 |(k',x)::es,ces,i,r,h,hm=>by
  obtain⟨e,ces,rfl,h1,h2,h3⟩:=hm;simp only[findKey] at h;split at h
  . rename_i hk;cases h;exact⟨_,by simp only[Instr.findNow,Qm8 hp hk rk h1],.inr ⟨i,x,e.val,rfl,rfl,h2,Ze8 _,by simp⟩⟩
  . rename_i hk;obtain⟨r',g1,g2⟩:=Ku hp rk es ces (i+1) r h h3;refine⟨r',by simp only[Instr.findNow,Qm8 hp hk rk h1];exact g1,?_⟩;rcases g2 with g2|⟨j,x,v,a1,a2,a3,a4,a5⟩
    . exact .inl g2
    . exact .inr ⟨j,x,v,a1,a2,a3,by omega,by rw[Zgz];omega⟩
  . cases h
theorem Kq{kt:TypeId}{kd:TypeDesc}{k:V}{ck:Value}(w:World)(b:Bool)(hu:P.underlying kt=some kd)(hp:Yo kd k=true)(rk:Rel E k ck):
 (Instr.checkKey b 10000 kt ck).run P w= .ok () w:=by
 have:∀n,(Instr.checkKey b (n+1) kt ck).run P w= .ok () w:=by intro n;cases k<;>cases kd<;>simp only[Yo,Ze7] at hp<;>simp only[Rel] at rk<;>subst rk<;>simp[Instr.checkKey,Qw hu]
 exact this 9999
theorem Xv{kt:TypeId}{kd:TypeDesc}{ck:Value}{ces:List MapEntry}{r' :Option (Nat×Value)}(w:World)(hu:P.underlying kt=some kd)
 (h:Instr.findNow kd ck ces 0=some r'):(Instr.findKey kt ck ces).run P w= .ok r' w:=by
 simp only[Instr.findKey,Zie,Qw hu,Zid,h,Zif]
theorem Qqn(S:Sim B F H E){t:TypeId}{m k y:V}{ok:Bool}{cm ck:Value}(h:Bu P (Qd H) t m k ok=some y)(rm:Rel E m cm)(rk:Rel E k ck):
 ∃v,(Instr.lookup t cm ck ok).run P E.w= .ok v E.w/\Rel E y v:=by
 unfold Bu at h;split at h
 case h_2=>cases h
 rename_i kt e hu;split at h
 case h_2=>cases h
 rename_i kd z hk hz;split at h
 case isFalse=>cases h
 rename_i hp;have hzero:Rel E (if ok then V.tuple [Jw z,.bool false] else Jw z) (if ok then .tuple #[z,.bool false] else z):=by
  cases ok
  . exact Bp E z
  . simp only[if_true,Rel];exact⟨[z,.bool false],rfl,.cons (Bp E z) (.cons (by simp[Rel]) .nil)⟩
 split at h
 . cases h;simp only[Rel] at rm;subst rm;refine⟨_,?_,hzero⟩;simp only[Instr.lookup,Zie,Qw hu,Zid,Zif,Kq E.w _ hk hp rk,Xv E.w hk (ces:=[]) rfl,Qb6 hz]
 . rename_i f s;split at h
   case h_2=>cases h
   rename_i es bs clk hg;simp only[Rel] at rm;obtain⟨b,hb,rfl⟩:=rm;obtain⟨b',ces,g1,_,g3,g4,g5⟩:=S.obj f s _ hg;rw[hb] at g1;cases g1;split at h
   . rename_i j x hf;cases h;obtain⟨r',h1,h2⟩:=Ku hp rk es ces.toList 0 _ hf g4;rcases h2 with⟨h2,_⟩|⟨j',x',v,h2,rfl,h3,_⟩
     . cases h2
     cases h2;refine⟨if ok then .tuple #[v,.bool true] else v,?_,?_⟩
     . simp only[Instr.lookup,Zie,Qw hu,Zid,Zif,Kl g3,Kq E.w _ hk hp rk,Xv E.w hk h1]
     . cases ok
       . exact h3
       . simp only[if_true,Rel];exact⟨[v,.bool true],rfl,.cons h3 (.cons (by simp[Rel]) .nil)⟩
   . rename_i hf;cases h;obtain⟨r',h1,h2⟩:=Ku hp rk es ces.toList 0 _ hf g4;rcases h2 with⟨_,rfl⟩|⟨_,_,_,h2,_⟩
     . refine⟨_,?_,hzero⟩;simp only[Instr.lookup,Zie,Qw hu,Zid,Zif,Kl g3,Kq E.w _ hk hp rk,Xv E.w hk h1,Qb6 hz]
     . cases h2
   . cases h
 . cases h
def Env.setMap(E:Env)(b:Nat)(ces:List MapEntry)(clk:Nat):Env:={E with w:={E.w with heap:=E.w.heap.setIfInBounds b (.map ⟨ces⟩ clk)}}
theorem Qb7(E:Env)(b:Nat)(ces:List MapEntry)(clk:Nat)(b' :Nat)(h:b' ≠b):(E.setMap b ces clk).w.heap[b']?=E.w.heap[b']?:=by simp only[Env.setMap];rw[Zh6 (by omega)]
theorem Sim.setMap(S:Sim B F H E){f0 s0 b:Nat}{es0 es:List (V×V)}{bs0:List Nat}{k0:Nat}(ho:Qd H f0 s0=some (.map es0 bs0 k0))(hmu:E.mu f0 s0=some b){ces0:Array MapEntry}{clk0:Nat}
 (hb:E.w.heap[b]?=some (.map ces0 clk0))(hB:B<=b)(ces:List MapEntry)(clk:Nat)(hr:Js E es ces):
 Ext H.length B E (E.setMap b ces clk)/\Sim B F (Qs H f0 s0 (.map es (ces.map (·.born)) clk)) (E.setMap b ces clk):=by
 have hlt:b<E.w.heap.size:=(Zfb.1 hb).1;have hself:(E.setMap b ces clk).w.heap[b]?=some (.map ⟨ces⟩ clk):=by simp[Env.setMap,hlt]
 have hcell:∀i,E.w.cell? ⟨b,i,none⟩=none:=fun i=>by simp[World.cell?,hb]
 have X:Ext H.length B E (E.setMap b ces clk):=by
  refine⟨by simp[Env.setMap],?_,?_,fun _ _ _ _ h=>h,fun _ _ _ _ h=>h,fun f s n b lo hi _ _ h=>⟨n,b,lo,hi,h,.inr ⟨rfl,rfl,rfl,rfl⟩⟩,?_,⟨rfl,rfl,rfl⟩,rfl,fun b' h=>by rw[Qb7 E b ces clk b' (by rintro rfl;rw[hb] at h;cases h)];exact h⟩
  . intro b' T n h;by_cases e:b' =b
    . subst e;simp[World.shape?,hb] at h
    . rw[Kr (Qb7 E b ces clk b' e)];exact h
  . intro b' i v _ h;by_cases e:b' =b
    . subst e;rw[hcell] at h;cases h
    . rw[K5 (Qb7 E b ces clk b' e)];exact h
  . intro b' hb';exact Qb7 E b ces clk b' (by omega)
 have hblk:blk E f0 s0 (.map es0 bs0 k0)=some b:=hmu;refine⟨X,S.step f0 s0 _ (Q9 ho) X (fun f s e=>rfl) (by simp[Env.setMap,hmu]) (fun f s e=>rfl) ?_ ?_ ?_ ?_ ?_ ?_⟩
 . intro n x h;obtain⟨_,q1,q2⟩:=S.nreg f0 s0 n x h;rw[ho] at q1;cases q1;cases q2
 . intro f s o b' e ho' hb';refine⟨?_,fun i h=>h⟩;have hne:b' ≠b:=fun e' =>e (S.inj f s o f0 s0 _ b' ho' ho hb' (e' ▸hblk));exact Qb7 E b ces clk b' hne
 . exact fun b i h=>S.fmod b i h
 . intro b' i h;simp only[Env.setMap,Array.size_setIfInBounds];exact S.modsz b' i h
 . exact⟨b,⟨ces⟩,hmu,hB,hself,Js.mono X S.lt _ _ hr,rfl⟩
 . intro f s o b' e ho' hb' h;simp only[blk,Env.setMap,hmu,Zic] at h;subst h;exact e (S.inj f s o f0 s0 _ b ho' ho hb' hblk)
theorem Js.set{es:List (V×V)}:∀{ces:List MapEntry} (i:Nat) {k x:V} {ck cx:Value},Js E es ces->Rel E k ck->Rel E x cx->
 Js E (es.set i (k,x)) (ces.modify i fun e=>{e with key:=ck,val:=cx}):=by
 induction es with
 |nil=>intro ces i k x ck cx h _ _;simp only[Js] at h;subst h;simp[Js]
 |cons y es ih=>
  intro ces i k x ck cx h hk hx;obtain⟨k',x'⟩:=y;obtain⟨e,r,rfl,h1,h2,h3⟩:=h;cases i with
  |zero=>simp only[List.set_cons_zero,List.modify_cons,Js];exact⟨_,_,rfl,hk,hx,h3⟩
  |succ i=>simp only[Zha,List.modify_succ_cons,Js];exact⟨_,_,rfl,h1,h2,ih i h3 hk hx⟩
theorem Js.append{es es' :List (V×V)}:∀{ces ces' :List MapEntry},Js E es ces->Js E es' ces' ->Js E (es++es') (ces++ces'):=by
 induction es with
 |nil=>intro ces ces' h g;simp only[Js] at h;subst h;simpa using g
 |cons y es ih=>
  intro ces ces' h g;obtain⟨k',x'⟩:=y;obtain⟨e,r,rfl,h1,h2,h3⟩:=h;exact⟨e,r++ces',rfl,h1,h2,ih h3 g⟩
theorem Js.one{k x:V}{e:MapEntry}(hk:Rel E k e.key)(hx:Rel E x e.val):Js E [(k,x)] [e]:=⟨e,[],rfl,hk,hx,rfl⟩
theorem Js.erase{es:List (V×V)}:∀{ces:List MapEntry} (i:Nat),Js E es ces->Js E (es.eraseIdx i) (ces.eraseIdx i):=by
 induction es with
 |nil=>intro ces i h;simp only[Js] at h;subst h;simp[Js]
 |cons y es ih=>
  intro ces i h;obtain⟨k',x'⟩:=y;obtain⟨e,r,rfl,h1,h2,h3⟩:=h;cases i with
  |zero=>simpa using h3
  |succ i=>simp only[List.eraseIdx_cons_succ,Js];exact⟨_,_,rfl,h1,h2,ih i h3⟩
theorem Qm6(ck cx:Value):∀(l:List MapEntry) (j:Nat),(l.modify j fun e=>{e with key:=ck,val:=cx}).map (·.born)=l.map (·.born)
 |[],j=>by simp
 |e::l,0=>by simp
 |e::l,j+1=>by simp[Qm6 ck cx l j]
theorem Qtw(ck:Value):∀(l:List MapEntry) (j:Nat),(l.modify j fun e=>{e with key:=ck}).map (·.born)=l.map (·.born)
 |[],j=>by simp
 |e::l,0=>by simp
 |e::l,j+1=>by simp[Qtw ck l j]
theorem Qm0{kd:TypeDesc}{ck:Value}:∀{ces:List MapEntry} {i j:Nat} {v:Value},Instr.findNow kd ck ces i=some (some (j,v))->(ces[j-i]?).map (·.val)=some v
 |[],i,j,v,h=>by cases h
 |e::r,i,j,v,h=>by
  simp only[Instr.findNow] at h;split at h
  . cases h;simp
  . have h1:=Qm0 h;have h2:i+1<=j:=by
     have:∀{ces:List MapEntry} {i j:Nat} {v:Value},Instr.findNow kd ck ces i=some (some (j,v))->i<=j:=by
      intro ces
      induction ces with
      |nil=>intro i j v h;cases h
      |cons e r ih=>
       intro i j v h;simp only[Instr.findNow] at h;split at h
       . cases h;exact Ze8 _
       . have:=ih h;omega
       . cases h
     exact this h
    rw[show j-i=(j-(i+1))+1 by omega];simpa using h1
  . cases h
theorem Qo5:∀(l:List MapEntry) (j:Nat),(l.eraseIdx j).map (·.born)=(l.map (·.born)).eraseIdx j
 |[],j=>by simp
 |e::l,0=>by simp
 |e::l,j+1=>by simp[Qo5 l j]
def Does(B:Nat)(F:Nat->Nat->Prop)(H:Qg)(E:Env)(v:V)(wr:Option (Nat×Nat×O))(r:Result Next):Prop:=
 ∃E' cv,Ext H.length B E E' /\Sim B F (match wr with|none=>H|some (f,s,o)=>Qs H f s o) E' /\Rel E' v cv/\(r= .ok (.value cv) E'.w\/(r= .ok .skip E'.w/\cv=undef))
theorem Qwl{kd:TypeDesc}{k:V}{ck:Value}(hp:Yo kd k=true){ces:List MapEntry}:∀{i j:Nat} {v:Value},Instr.findNow kd ck ces i=some (some (j,v))->Rel E k ck->
 ∃e,ces[j-i]?=some e/\i<=j/\Instr.sameBits 10000 e.key ck=true:=by
 induction ces with
 |nil=>intro i j v h _;cases h
 |cons e r ih=>
  intro i j v h rk;simp only[Instr.findNow] at h;split at h
  . rename_i hs;cases h;refine⟨e,by simp,Ze8 _,?_⟩;cases k<;>cases kd<;>simp only[Yo,Ze7] at hp<;>simp only[Rel] at rk<;>subst rk
    . cases hk:e.key<;>rw[hk] at hs<;>simp only[Instr.sameNow,reduceCtorEq] at hs;simp only[Zic,beq_iff_eq] at hs;subst hs;simp[Instr.sameBits]
    . cases hk:e.key<;>rw[hk] at hs<;>simp only[Instr.sameNow,reduceCtorEq] at hs;split at hs
      . rename_i hkk;simp only[Zic,beq_iff_eq] at hs;subst hs;subst hkk;simp[Instr.sameBits]
      . cases hs
    . cases hk:e.key<;>rw[hk] at hs<;>simp only[Instr.sameNow,reduceCtorEq] at hs;rename_i s s';obtain⟨⟨l⟩⟩:=s';rw[Qh8] at hs;simp only[Zic,beq_iff_eq] at hs;subst hs;simp only[Instr.sameBits,Qh8,beq_self_eq_true]
  . obtain⟨e',h1,h2,h3⟩:=ih h rk;refine⟨e',?_,by omega,h3⟩;rw[show j-i=(j-(i+1))+1 by omega];simpa using h1
  . cases h
theorem Qiv(S:Sim B F H E){t:TypeId}{m k x:V}{cm ck cx:Value}{st:Yv}(h:updateV P (Qd H) t m k x=some st)(rm:Rel E m cm)(rk:Rel E k ck)(rx:Rel E x cx):
 ∃v wr,st= .val v wr/\∀r,(Instr.mapUpdate t cm ck cx).run P E.w=r->∃E' cv,Ext H.length B E E' /\Sim B F (match wr with|none=>H|some (f,s,o)=>Qs H f s o) E' /\Rel E' v cv/\r= .ok () E'.w/\cv=undef:=by
 unfold updateV at h;split at h
 case h_2=>cases h
 rename_i kt e hu;split at h
 case h_2=>cases h
 rename_i kd hk;split at h
 case isFalse=>cases h
 rename_i hp;split at h
 case h_2=>cases h
 rename_i f s;split at h
 case h_2=>cases h
 rename_i es bs clk hg;simp only[Rel] at rm;obtain⟨b,hb,rfl⟩:=rm;obtain⟨b',ces,g1,g2,g3,g4,g5⟩:=S.obj f s _ hg;rw[hb] at g1;cases g1;split at h
 . rename_i j y hf;cases h;refine⟨_,_,rfl,?_⟩;rintro r rfl;obtain⟨r',h1,h2⟩:=Ku hp rk es ces.toList 0 _ hf g4;rcases h2 with⟨h2,_⟩|⟨j',x',v,h2,rfl,h3,_,h5⟩
   . cases h2
   cases h2;obtain⟨e',q1,_,q2⟩:=Qwl hp h1 rk;simp only[Nat.sub_zero] at q1;have hkey:((ces[j]?).map (·.key)).getD ck=e'.key:=by
    have:ces[j]?=some e' :=by simpa using q1
    rw[this];rfl
   have q2' :Instr.sameBits 10000 (((ces[j]?).map (·.key)).getD ck) ck=true:=by rw[hkey];exact q2
   obtain⟨X,S'⟩:=S.setMap hg hb g3 g2 (ces.toList.modify j fun e=>{e with key:=ck,val:=cx}) clk (Js.set j g4 rk rx);rw[Qm6,g5] at S';refine⟨_,undef,X,S',by simp[Rel],?_,rfl⟩;simp only[Instr.mapUpdate,Zie,Qw hu,Zid,Kl g3,Kq E.w _ hk hp rk,Xv E.w hk h1,Instr.keyThatStays,q2',if_true,Zif,Qbr g3];congr 1;simp only[Env.setMap];congr 2;congr 1;apply Array.ext';simp
 . rename_i hf;cases h;refine⟨_,_,rfl,?_⟩;rintro r rfl;obtain⟨r',h1,h2⟩:=Ku hp rk es ces.toList 0 _ hf g4;rcases h2 with⟨_,rfl⟩|⟨_,_,_,h2,_⟩
   . obtain⟨X,S'⟩:=S.setMap hg hb g3 g2 (ces.toList++[{key:=ck,val:=cx,born:=clk}]) (clk+1) (Js.append g4 (Js.one rk rx));rw[Zgw,g5] at S';refine⟨_,undef,X,S',by simp[Rel],?_,rfl⟩;simp only[Instr.mapUpdate,Zie,Qw hu,Zid,Kl g3,Kq E.w _ hk hp rk,Xv E.w hk h1,Qbr g3];congr 1;simp only[Env.setMap];congr 2;congr 1;apply Array.ext';simp
   . cases h2
 . cases h
theorem Qqg(S:Sim B F H E){ts:Array TypeId}{t ty:TypeId}{m k:V}{cm ck:Value}{st:Yv}(ht:ts[0]?=some t)(h:X9 P (Qd H) t m k=some st)(rm:Rel E m cm)(rk:Rel E k ck):
 ∃v wr,st= .val v wr/\∀r,(Builtin.delete_ ts ty #[cm,ck]).run P E.w=r->∃E' cv,Ext H.length B E E' /\Sim B F (match wr with|none=>H|some (f,s,o)=>Qs H f s o) E' /\Rel E' v cv/\r= .ok cv E'.w:=by
 unfold X9 at h;split at h
 case h_2=>cases h
 rename_i kt e hu;split at h
 case h_2=>cases h
 rename_i kd hk;split at h
 case isFalse=>cases h
 rename_i hp;have hnil:Rel E (.tuple []) (.tuple #[]):=by simp only[Rel];exact⟨[],rfl,.nil⟩
 split at h
 . cases h;refine⟨_,_,rfl,?_⟩;rintro r rfl;simp only[Rel] at rm;subst rm;exact⟨E,.tuple #[],Ext.refl _ _ _,S,hnil,by simp[Builtin.delete_,ht,Qw hu,Kq E.w _ hk hp rk]⟩
 . rename_i f s;split at h
   case h_2=>cases h
   rename_i es bs clk hg;simp only[Rel] at rm;obtain⟨b,hb,rfl⟩:=rm;obtain⟨b',ces,g1,g2,g3,g4,g5⟩:=S.obj f s _ hg;rw[hb] at g1;cases g1;split at h
   . rename_i j y hf;cases h;refine⟨_,_,rfl,?_⟩;rintro r rfl;obtain⟨r',h1,h2⟩:=Ku hp rk es ces.toList 0 _ hf g4;rcases h2 with⟨h2,_⟩|⟨j',x',v,h2,rfl,h3,_,h5⟩
     . cases h2
     cases h2;obtain⟨X,S'⟩:=S.setMap hg hb g3 g2 (ces.toList.eraseIdx j) clk (Js.erase j g4);rw[Qo5,g5] at S';refine⟨_,.tuple #[],X,S',Rel.mono X S.lt _ _ hnil,?_⟩;have harr:(⟨ces.toList.eraseIdx j⟩:Array MapEntry)=ces.eraseIdxIfInBounds j:=by apply Array.ext';simp[Array.toList_eraseIdxIfInBounds]
     simp[Builtin.delete_,ht,Qw hu,Kl g3,Kq E.w _ hk hp rk,Xv E.w hk h1,Qbr g3,Env.setMap,harr]
   . rename_i hf;cases h;refine⟨_,_,rfl,?_⟩;rintro r rfl;obtain⟨r',h1,h2⟩:=Ku hp rk es ces.toList 0 _ hf g4;rcases h2 with⟨_,rfl⟩|⟨_,_,_,h2,_⟩
     . obtain⟨X,S'⟩:=S.setMap hg hb g3 g2 ces.toList clk g4;rw[g5] at S';refine⟨_,.tuple #[],X,S',Rel.mono X S.lt _ _ hnil,?_⟩;simp[Builtin.delete_,ht,Qw hu,Kl g3,Kq E.w _ hk hp rk,Xv E.w hk h1,Qbr g3,Env.setMap]
     . cases h2
   . cases h
 . cases h
end Go.AM
namespace Go.AM
variable {P : Program} {E : Env} {B : Nat} {F : Nat -> Nat -> Prop} {H : Qg}
theorem Qc8{len bytes:Nat}(h:Qa1 len bytes=true):len*bytes<=35184372088832/\len<=35184372088832:=by simpa [Qa1] using h
theorem Qrq(newLen:Nat):∀(r c:Nat),c<=newLen->Builtin.growBy newLen r c<=2*newLen+192
 |0,c,h=>by simp only[Builtin.growBy];omega
 |r+1,c,h=>by
  simp only[Builtin.growBy];split
  . omega
  . by_cases h2:c+(c+768)/4<=newLen
    . exact Qrq newLen r _ h2
    . have:Builtin.growBy newLen r (c+(c+768)/4)=c+(c+768)/4:=by
       cases r with
       |zero=>rfl
       |succ r=>simp only[Builtin.growBy];rw[if_pos (by omega)]
      rw[this];omega
theorem Qyk{need cap bytes:Nat}(h:cap<need)(hr:Qa1 need bytes=true):¬(Builtin.nextslicecap need cap*bytes>2^48):=by
 obtain⟨h1,h2⟩:=Qc8 hr;unfold Builtin.nextslicecap;split
 . omega
 . split
   . have:2*cap*bytes<=2*(need*bytes):=by
      rw[Nat.mul_assoc];exact Nat.mul_le_mul_left _ (Zgc _ (by omega))
     omega
   . have g:=Qrq need 4 cap (by omega);have g1:Builtin.growBy need 4 cap*bytes<=(2*need+192)*bytes:=Zgc _ g;have g2:(2*need+192)*bytes=2*(need*bytes)+192*bytes:=by rw[Zhw,Nat.mul_assoc]
     have g3:256*bytes<=need*bytes:=Zgc _ (by omega);omega
theorem Qao(zs:Array Value)(n:Nat):Builtin.zeroCells zs n=⟨zerosN zs.toList n⟩:=by have:=Qhu zs.toList n;simp only[Zf3] at this;exact this
inductive Src(P:Program)(w:World)(e:TypeId)(n by_:Nat)(t2:TypeId):Value->Nat->List Value->Prop
 |zeros (k:Int) (kd:IntKind) (zv:Value) (hu:P.underlying t2=some (.int kd)) (hk:0<=k) (hr:Qa1 k.toNat by_=true) (hz:zer P e=some zv) (hl:zv.cells.size=n):
   Src P w e n by_ t2 (.int .i64 k) k.toNat (zerosN zv.cells.toList k.toNat)
 |other (x:Value) (m:Nat) (news:List Value) (d:TypeDesc) (hu:P.underlying t2=some d) (hd:∀k,d≠ .int k)
   (hlen:∀w' :World,(Builtin.lenOf x).run P w' = .ok m w') (hc:∀w' :World,w'.heap=w.heap->(Builtin.firstCells n m x).run P w' = .ok ⟨news⟩ w'):Src P w e n by_ t2 x m news
theorem Xk(w:World)(T:TypeId)(c:Array Value):(newRow T c).run P w= .ok ⟨w.heap.size,0,none⟩ {w with heap:=w.heap.push (.cells c T)}:=rfl
theorem Qub(a b:Value):(#[a,b]:Array Value)[0]?=some a:=rfl
theorem Qv8(a b:Value):(#[a,b]:Array Value)[1]?=some b:=rfl
theorem Qd3(w:World)(k:IntKind)(n:Int):(Go.asInt (.int k n)).run P w= .ok n w:=by simp[Go.asInt,asIntOf]
theorem B4{w:World}{ts:Array TypeId}{t t2 ty e:TypeId}{n by_ m sLen sCap:Nat}{s x:Value}{base:Option Addr}{olds news:List Value}{zv:Value}
 (ht:ts[0]?=some t)(ht2:ts[1]?=some t2)(hu:P.underlying t=some (.slice e))(hn:sz P e=some n)(hb:byt P e=some by_)(hz:zer P e=some zv)
 (hs:s= .slice base sLen sCap)(hsrc:Src P w e n by_ t2 x m news)
 (hold:∀w' :World,w'.heap=w.heap->(Builtin.firstCells n sLen s).run P w' = .ok ⟨olds⟩ w')(hg:sCap<sLen+m)(hr:Qa1 (sLen+m) by_=true):
 ∃newCap,sLen+m<=newCap/\(Builtin.append_ ts ty #[s,x]).run P w= .ok (.slice (some ⟨w.heap.size,0,none⟩) (sLen+m) newCap)
  {w with heap:=w.heap.push (.cells ⟨olds++news++zerosN zv.cells.toList (newCap-(sLen+m))⟩ e),drawn:=w.drawn+1}:=by
 obtain⟨ti,hti,hbi⟩:=Qj6 hb w;have hti' :∀w' :World,(typeInfo e).run P w' = .ok ti w' :=by
  intro w';obtain⟨i2,h2,_⟩:=Qj6 hb w';unfold typeInfo at hti h2⊢;simp only[Zie,run_program,Zid] at hti h2⊢;cases hq:P.info? e with
  |none=>rw[hq] at hti;simp at hti
  |some i=>rw[hq] at hti;simp at hti;subst hti;simp
 have hnc:=Qyk hg hr;obtain⟨hr1,hr2⟩:=Qc8 hr;have hmax:IntKind.i64.max=9223372036854775807:=by decide
 have hbig:¬(((sLen+m:Nat):Int)>IntKind.i64.max):=by rw[hmax];omega
 refine⟨sLen+m+(w.tape w.drawn (.appendCap (sLen+m) sCap e))%(2^63-(sLen+m)),by omega,?_⟩;have hforced:(Question.appendCap (sLen+m) sCap e).forced=false:=rfl;subst hs;cases hsrc with
 |zeros k kd zv' hu2 hk hrk hz' hl=>
  rw[hz] at hz';cases hz';have hw:IntKind.i64.wrap k=k:=by have:=(Qc8 hrk).2;rw[IntKind.wrap_i64];omega
  have h1:¬(k<0):=by omega
  have h2:¬(k*(by_:Int)>2^48):=by
   have h3:=(Qc8 hrk).1;have:((k.toNat*by_:Nat):Int)=k*(by_:Int):=by push_cast;rw[Int.toNat_of_nonneg hk]
   omega
  have h3:¬(sLen+k.toNat<=sCap):=by omega
  have hq:(Question.appendCap (sLen+k.toNat) sCap e).cut (w.tape w.drawn (.appendCap (sLen+k.toNat) sCap e))=
   sLen+k.toNat+(w.tape w.drawn (.appendCap (sLen+k.toNat) sCap e))%(2^63-(sLen+k.toNat)):=rfl
  have happ:∀w' :World,(if k.toNat*n=0 then Result.ok #[] w' else Result.ok (Builtin.zeroCells zv.cells k.toNat) w')= .ok ⟨zerosN zv.cells.toList k.toNat⟩ w' :=by
   intro w';split
   . rename_i h0;have:zerosN zv.cells.toList k.toNat=[]:=by
      apply Zf7;rw[Kt,Zf3,hl,h0]
     rw[this]
   . rw[Qao]
  have hold' :=hold {w with drawn:=w.drawn+1} rfl;simp only[Builtin.append_,ht,ht2,Qub,Qv8,Zie,Qw hu,Qw hu2,K8 hn,hti',hw,Zid,Zif,Qd3,h1,h2,h3,if_true,if_false,hbig,false_and,hbi,hnc,run_choose,hforced,hq,run_askRoom,Sem.run_ite,Zhf,Ze7,hold',Qb6 hz];rw[happ];simp only[Zid,Xk,Qao,List.append_toArray]
 |other x m news d hu2 hd hlen hc=>
  have hold' :=hold {w with drawn:=w.drawn+1} rfl;have hc' :=hc {w with drawn:=w.drawn+1} rfl;have h3:¬(sLen+m<=sCap):=by omega
  have hq:(Question.appendCap (sLen+m) sCap e).cut (w.tape w.drawn (.appendCap (sLen+m) sCap e))=
   sLen+m+(w.tape w.drawn (.appendCap (sLen+m) sCap e))%(2^63-(sLen+m)):=rfl
  simp only[Builtin.append_,ht,ht2,Qub,Qv8,Zie,Qw hu,Qw hu2,K8 hn,hti',Zid,Zif,h3,if_true,if_false,hbig,false_and,hbi,hnc,run_choose,hforced,hq,run_askRoom,Sem.run_ite,Zgo,Ze7,hold',Qb6 hz,hlen,hc',Xk,Qao];simp
theorem Qfj(P:Program)(g o:Nat)(t:TypeId)(z:Nat×Nat):∀(vs:List Value) (i:Nat) (cur:Array Value) (w:World),w.heap[g]?=some (.cells cur t z)->(z=(0,0)\/o+i+vs.length<=z.1)->o+i+vs.length<=cur.size->(∀v∈vs,v.oneCell' =true)->
 (storeCells ⟨g,o,none⟩ vs i).run P w= .ok () (w.setRow g (cur.toList.take (o+i)++vs++cur.toList.drop (o+i+vs.length)).toArray)
 |[],i,cur,w,hg,_,_,_=>by
  simp only[storeCells,Zf2,Zg2,Zhd,Zft,Array.toArray_toList];rw[setRow_self w g cur t z hg];rfl
 |v::rest,i,cur,w,hg,hz,hl,h1=>by
  have hi:o+i<cur.size:=by simp at hl;omega
  have hadd:(⟨g,o,none⟩:Addr).add i=⟨g,o+i,none⟩:=by unfold Addr.add;split<;>simp_all
  have hcell:w.cell? ⟨g,o+i,none⟩=some cur[o+i]:=by simp[World.cell?,hg,hi]
  have hfro:w.frozen? ⟨g,o+i,none⟩=false:=by
   rcases hz with rfl|hz
   . simp[World.frozen?,hg]
   . obtain⟨lo,hi'⟩:=z;simp only[World.frozen?,hg,Bool.and_eq_false_iff,decide_eq_false_iff_not];left;simp only[Zgz] at hz;omega
  have hst:(store ((⟨g,o,none⟩:Addr).add i) v).run P w= .ok () (w.setRow g (cur.setIfInBounds (o+i) v)):=by rw[hadd,run_store P w _ v _ (h1 v (by simp)),hcell];simp[hfro,setCell_eq_setRow w g (o+i) cur t z v hg]
  have ih:=Qfj P g o t z rest (i+1) (cur.setIfInBounds (o+i) v) (w.setRow g (cur.setIfInBounds (o+i) v)) (setRow_heap w g cur _ t _ hg) (hz.imp id (fun h=>by simp only[Zgz] at h;omega)) (by simp at hl⊢;omega) (fun x hx=>h1 x (by simp[hx]));simp only[storeCells,Zie,hst,Zid,ih,setRow_setRow];congr 3;have e:=list_seg_step cur.toList (o+i) v rest (by simp at hl⊢;omega);simpa [Array.toList_setIfInBounds,Zfq] using e
theorem Qdn{w:World}{ts:Array TypeId}{t t2 ty e:TypeId}{n by_ m sLen sCap b off:Nat}{x:Value}{news:List Value}{cur:Array Value}{T:TypeId}{z:Nat×Nat}
 (ht:ts[0]?=some t)(ht2:ts[1]?=some t2)(hu:P.underlying t=some (.slice e))(hn:sz P e=some n)(hb:byt P e=some by_)
 (hsrc:Src P w e n by_ t2 x m news)(hfit:sLen+m<=sCap)(hcell:w.heap[b]?=some (.cells cur T z))
 (hsz:off+sLen*n+news.length<=cur.size)(h1:∀v∈news,v.oneCell' =true)(hz:z=(0,0)\/off+sLen*n+news.length<=z.1:=by exact .inl rfl):
 (Builtin.append_ ts ty #[.slice (some ⟨b,off,none⟩) sLen sCap,x]).run P w= .ok (.slice (some ⟨b,off,none⟩) (sLen+m) sCap)
   (w.setRow b ⟨splice cur.toList (off+sLen*n) news⟩):=by
 obtain⟨ti,hti,hbi⟩:=Qj6 hb w;have hst:=Qfj P b (off+sLen*n) T z news 0 cur w hcell (by simpa using hz) (by simpa using hsz) h1;simp only[Zhd] at hst;cases hsrc with
 |zeros k kd zv' hu2 hk hrk hz' hl=>
  have hw:IntKind.i64.wrap k=k:=by have:=(Qc8 hrk).2;rw[IntKind.wrap_i64];omega
  have g1:¬(k<0):=by omega
  have g2:¬(k*(by_:Int)>2^48):=by
   have h3:=(Qc8 hrk).1;have:((k.toNat*by_:Nat):Int)=k*(by_:Int):=by push_cast;rw[Int.toNat_of_nonneg hk]
   omega
  have happ:(if k.toNat*n=0 then Result.ok #[] w else Result.ok (Builtin.zeroCells zv'.cells k.toNat) w)= .ok ⟨zerosN zv'.cells.toList k.toNat⟩ w:=by
   split
   . rename_i h0;have:zerosN zv'.cells.toList k.toNat=[]:=by
      apply Zf7;rw[Kt,Zf3,hl,h0]
     rw[this]
   . rw[Qao]
  simp only[Builtin.append_,ht,ht2,Qub,Qv8,Zie,Qw hu,Qw hu2,K8 hn,hti,hw,Zid,Zif,Qd3,g1,g2,if_true,if_false,hbi,Sem.run_ite,Zhf,Ze7,Qb6 hz',hfit];rw[happ];simp only[Zid,Kk,hst,splice]
 |other x m news d hu2 hd hlen hc=>
  have hc' :=hc w rfl;simp only[Builtin.append_,ht,ht2,Qub,Qv8,Zie,Qw hu,Qw hu2,K8 hn,Zid,Zif,if_true,if_false,Sem.run_ite,Zgo,Ze7,hlen,hc',hfit,Kk,hst,splice]
theorem B2{w:World}{ts:Array TypeId}{t t2 ty e:TypeId}{n by_ m sLen sCap:Nat}{base:Option Addr}{x:Value}
 (ht:ts[0]?=some t)(ht2:ts[1]?=some t2)(hu:P.underlying t=some (.slice e))(hn:sz P e=some n)(hb:byt P e=some by_)
 (hsrc:Src P w e n by_ t2 x m [])(hm:m=0)(hfit:sLen<=sCap):
 (Builtin.append_ ts ty #[.slice base sLen sCap,x]).run P w= .ok (.slice base sLen sCap) w:=by
 obtain⟨ti,hti,hbi⟩:=Qj6 hb w;have hst:∀a:Addr,(storeCells a []).run P w= .ok () w:=fun a=>rfl;have hsrc' :∃news,news=[]/\Src P w e n by_ t2 x m news:=⟨[],rfl,hsrc⟩;obtain⟨news,hnil,hsrc'⟩:=hsrc';cases hsrc' with
 |zeros k kd zv' hu2 hk hrk hz' hl=>
  have hw:IntKind.i64.wrap k=k:=by have:=(Qc8 hrk).2;rw[IntKind.wrap_i64];omega
  have g1:¬(k<0):=by omega
  obtain rfl:k=0:=by omega
  simp only[Builtin.append_,ht,ht2,Qub,Qv8,Zie,Qw hu,Qw hu2,K8 hn,hti,hw,Zid,Zif,Qd3,g1,if_true,if_false,Sem.run_ite,Zhf,Ze7,Int.toNat_zero,Nat.zero_mul,Zhd,hfit,Int.zero_mul];cases base<;>simp[hst]
 |other x m news d hu2 hd hlen hc=>
  subst hnil;subst hm;have hc' :=hc w rfl;simp only[Builtin.append_,ht,ht2,Qub,Qv8,Zie,Qw hu,Qw hu2,K8 hn,Zid,Zif,if_true,if_false,Sem.run_ite,Zgo,Ze7,hlen,hc',Zhd,hfit];cases base<;>simp[hst]
end Go.AM
end
