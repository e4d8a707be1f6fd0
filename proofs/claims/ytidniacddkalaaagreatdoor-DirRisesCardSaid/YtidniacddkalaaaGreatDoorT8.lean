/- This file holds in one the texts An16, An19; each says at its head what it proves. -/
import Derived.Test.YtidniacddkalaaaGreatDoorT7
set_option linter.unusedSimpArgs false
set_option linter.unusedVariables false
section
namespace Go.AM
variable {P : Program} {E : Env} {B : Nat} {F : Nat -> Nat -> Prop} {H : Heap}
def Env.drop(E:Env)(p:Nat->Nat->Bool):Env:=
 {w:=E.w,mu:=fun f s=>if p f s then none else E.mu f s,reg:=fun f s=>if p f s then none else E.reg f s,mod:=E.mod,tab:=E.tab}
theorem Env.drop_mu(E:Env){p:Nat->Nat->Bool}{f s:Nat}(h:p f s=false):(E.drop p).mu f s=E.mu f s:=by simp[Env.drop,h]
theorem Env.drop_reg(E:Env){p:Nat->Nat->Bool}{f s:Nat}(h:p f s=false):(E.drop p).reg f s=E.reg f s:=by simp[Env.drop,h]
mutual
theorem Rel.strike{p:Nat->Nat->Bool}:∀(x:V) (v:Value),x.refs p=false->Rel E x v->Rel (E.drop p) x v
 | .bad,_,_,_=>by simp[Rel]
 | .bool _,_,_,r| .int _ _,_,_,r| .str _,_,_,r| .nP,_,_,r| .nS,_,_,r| .nM,_,_,r| .nF,_,_,r| .nI,_,_,r| .byte,_,_,r=>by
   simpa only[Rel] using r
 | .ptr f s o,_,q,r=>by
   simp only[V.refs] at q;simp only[Rel,E.drop_mu q] at r⊢;exact r
 | .iptr cells o,_,_,r=>by
   simp only[Rel] at r⊢;obtain⟨b,off,vs,rfl,hr,hl,hp⟩:=r;exact⟨b,off,vs,rfl,hr,Qe.dress (E:=E) (E' :=E.drop p) rfl rfl cells vs hp hl,hp⟩
 | .iS cells len full,_,_,r=>by
   simp only[Rel] at r⊢;obtain⟨a,cap,vs,rfl,h1,h2,hr,hl,hp⟩:=r;exact⟨a,cap,vs,rfl,h1,h2,hr,Qe.dress (E:=E) (E' :=E.drop p) rfl rfl cells vs hp hl,hp⟩
 | .gS f s cells len esz,_,q,r=>by
   simp only[V.refs,Zsr] at q;simp only[Rel,E.drop_mu q.1,E.drop_reg q.1] at r⊢;obtain⟨b,off,cap,vs,rfl,h1,hr,hl,hrest⟩:=r;exact⟨b,off,cap,vs,rfl,h1,hr,Qe.strike cells vs q.2 hl,hrest⟩
 | .rptr cells o,_,q,r=>by
   simp only[V.refs] at q;simp only[Rel] at r⊢;obtain⟨b,off,vs,rfl,hr,hl⟩:=r;exact⟨b,off,vs,rfl,hr,Qe.strike cells vs q hl⟩
 | .mS f s o len cap esz,_,q,r=>by
   simp only[V.refs] at q;simp only[Rel,E.drop_mu q] at r⊢;exact r
 | .map f s,_,q,r=>by
   simp only[V.refs] at q;simp only[Rel,E.drop_mu q] at r⊢;exact r
 | .yield f s,_,q,r=>by
   simp only[V.refs] at q;simp only[Rel,E.drop_mu q] at r⊢;exact r
 | .func fn first captured,_,q,r=>by
   simp only[V.refs,Zsr] at q;simp only[Rel] at r⊢;obtain⟨fs,cs,rfl,h1,h2⟩:=r;exact⟨fs,cs,rfl,Qe.strike first fs q.1 h1,Qe.strike captured cs q.2 h2⟩
 | .face t x,_,q,r=>by
   simp only[V.refs] at q;simp only[Rel] at r⊢;obtain⟨c,rfl,hc⟩:=r;exact⟨c,rfl,Rel.strike x c q hc⟩
 | .agg cells,_,q,r=>by
   simp only[V.refs] at q;simp only[Rel] at r⊢;obtain⟨vs,rfl,hl⟩:=r;exact⟨vs,rfl,Qe.strike cells vs q hl⟩
 | .tuple cells,_,q,r=>by
   simp only[V.refs] at q;simp only[Rel] at r⊢;obtain⟨vs,rfl,hl⟩:=r;exact⟨vs,rfl,Qe.strike cells vs q hl⟩
theorem Qe.strike{p:Nat->Nat->Bool}:∀(xs:List V) (vs:List Value),Qi p xs=false->Qe E xs vs->Qe (E.drop p) xs vs
 |[],_,_,r=>r
 |x::xs,_,q,r=>by
  simp only[Qi,Zsr] at q;obtain⟨v,r',rfl,hv,hr⟩:=Qe.cons_iff.1 r;exact .cons (Rel.strike x v q.1 hv) (Qe.strike xs r' q.2 hr)
end
theorem Z4.strike{p:Nat->Nat->Bool}:∀(es:List (V×V)) (ces:List MapEntry),Qgm p es=false->Z4 E es ces->Z4 (E.drop p) es ces
 |[],_,_,r=>r
 |(k,x)::es,_,q,r=>by
  simp only[Qgm,Zsr] at q;obtain⟨e,r',rfl,h1,h2,h3⟩:=r;exact⟨e,r',rfl,Rel.strike k _ q.1.1 h1,Rel.strike x _ q.1.2 h2,Z4.strike es r' q.2 h3⟩
theorem Sim.drop(S:Sim B F H E){p:Nat->Nat->Bool}{H' :Heap}{k:Nat}(hp:∀f s,p f s=true->k<=f)
 (hget' :∀f s,Qd H' f s=if p f s then none else Qd H f s)(hno:∀f s o,Qd H' f s=some o->o.refs p=false):
 Ext k B E (E.drop p)/\Sim B F H' (E.drop p):=by
 have hold:∀f s o,Qd H' f s=some o->p f s=false/\Qd H f s=some o:=by
  intro f s o ho;rw[hget'] at ho;cases hq:p f s with
  |true=>rw[hq] at ho;cases ho
  |false=>rw[hq] at ho;exact⟨rfl,ho⟩
 refine⟨⟨Zrf _,fun _ _ _ h=>h,fun _ _ _ _ h=>h,fun _ _ _ _ h=>h,?_,?_,fun _ _=>rfl,⟨rfl,rfl,rfl⟩,rfl,fun _ h=>h⟩,⟨?_,S.bsz,S.fb,S.fmod,S.modsz,?_,?_,?_⟩⟩
 . intro f s b hf h;have:p f s=false:=by
    cases hq:p f s with
    |true=>have:=hp f s hq;omega
    |false=>rfl
   rw[E.drop_mu this];exact h
 . intro f s n b lo hi hf hs h;have:p f s=false:=by
    cases hq:p f s with
    |true=>have:=hp f s hq;omega
    |false=>rfl
   rw[E.drop_reg this] at h;exact⟨n,b,lo,hi,h,.inr ⟨rfl,rfl,rfl,rfl⟩⟩
 . intro f s;rw[hget'];cases hq:p f s with
   |true=>simp[Env.drop,hq]
   |false=>rw[E.drop_mu hq];exact S.dom f s
 . intro f s o ho;obtain⟨hq,ho'⟩:=hold f s o ho;have hr:=hno f s o ho;have:=S.obj f s o ho';cases o with
   |cells xs=>
    obtain⟨b,c,T,vs,rest,h1,h2,h3,h4,h5,h6,h7⟩:=this;exact⟨b,c,T,vs,rest,(E.drop_mu hq).trans h1,h2,h3,h4,Qe.strike xs vs hr h5,h6,h7⟩
   |map es bs clk=>
    obtain⟨b,ces,h1,h2,h3,h4,h5⟩:=this;exact⟨b,ces,(E.drop_mu hq).trans h1,h2,h3,Z4.strike es _ hr h4,h5⟩
   |iter m since seen stepped=>
    obtain⟨b,mb,h1,h2,h3,h4⟩:=this;refine⟨b,mb,(E.drop_mu hq).trans h1,h2,h3,?_⟩;cases m with
    |none=>exact h4
    |some x=>
     obtain⟨r,h5,h6⟩:=h4;exact⟨r,h5,(E.drop_mu hr).trans h6⟩
   |grow n=>
    obtain⟨b,lo,hi,c,T,z,h1,h2⟩:=this;exact⟨b,lo,hi,c,T,z,(E.drop_reg hq).trans h1,h2⟩
   |loop st pend fn rid t=>
    obtain⟨b,r,h1,h2,h3,h4,h5,h7,h8⟩:=this;exact⟨b,r,(E.drop_mu hq).trans h1,h2,h3,h4,h5,h7,Qe.strike t _ hr h8⟩
   |siter l pos=>
    obtain⟨b,h1,h2,h3⟩:=this;exact⟨b,(E.drop_mu hq).trans h1,h2,h3⟩
   |dead=>trivial
 . intro f s n x h;rw[hget'];cases hq:p f s with
   |true=>simp[Env.drop,hq] at h
   |false=>rw[E.drop_reg hq] at h;exact S.nreg f s n x h
 . intro f s o f' s' o' b h1 h2 h3 h4;obtain⟨q1,g1⟩:=hold f s o h1;obtain⟨q2,g2⟩:=hold f' s' o' h2;refine S.inj f s o f' s' o' b g1 g2 ?_ ?_
   . cases o<;>simp only[blk,E.drop_mu q1,E.drop_reg q1] at h3<;>exact h3
   . cases o' <;>simp only[blk,E.drop_mu q2,E.drop_reg q2] at h4<;>exact h4
theorem Qp9{p:Nat->Nat->Bool}:∀(fr:Frame) (s:Nat) (o:O),Zb p fr=true->Bi fr s=some o->o.refs p=false
 |[],s,o,_,h=>by cases h
 |(k,q)::r,s,o,hc,h=>by
  simp only[Zb,Zr1,Zss] at hc;simp only[Bi] at h;split at h
  . cases h;exact hc.1
  . exact Qp9 r s o hc.2 h
theorem Qbe{p:Nat->Nat->Bool}:∀(H:Heap) (f s:Nat) (o:O),Qz p H=true->Qd H f s=some o->o.refs p=false
 |[],f,s,o,_,h=>by simp[Qd] at h
 |fr::r,f,s,o,hc,h=>by
  simp only[Qz,Zr1] at hc;cases f with
  |zero=>exact Qp9 fr s o hc.1 (by simpa [Qd] using h)
  |succ f=>exact Qbe r f s o hc.2 (by simpa [Qd] using h)
theorem Qe8(H:Heap)(f s:Nat):Qd (H++[[]]) f s=Qd H f s:=by
 unfold Qd;by_cases h:f<H.length
 . rw[Zsk h]
 . rw[Zsl (by omega),Zrd (l:=H) (by omega)];by_cases e:f=H.length
   . subst e;simp[Bi]
   . rw[Zrd];simp;omega
theorem Sim.push(S:Sim B F H E):Sim B F (H++[[]]) E where
 dom:=fun f s=>by rw[Qe8];exact S.dom f s
 bsz:=S.bsz
 fb:=S.fb
 fmod:=S.fmod
 modsz:=S.modsz
 obj:=fun f s o h=>S.obj f s o (by rw[Qe8] at h;exact h)
 nreg:=fun f s n x h=>by rw[Qe8];exact S.nreg f s n x h
 inj:=fun f s o f' s' o' b h1 h2=>S.inj f s o f' s' o' b (by rw[Qe8] at h1;exact h1) (by rw[Qe8] at h2;exact h2)
theorem Q7l(H:Heap)(b f s:Nat):Qd (H.take b) f s=if Nat.ble b f then none else Qd H f s:=by
 unfold Qd;rw[Zrn];by_cases h:f<b
 . have:Nat.ble b f=false:=by
    cases hq:Nat.ble b f with
    |true=>have:=Ztq hq;omega
    |false=>rfl
   rw[if_pos h,this];rfl
 . have:Nat.ble b f=true:=Zt6 (by omega);rw[if_neg h,this];rfl
theorem Sim.pop(S:Sim B F H E)(b:Nat)(x:V)(v:Value)(r:Rel E x v):
 ∃E',E'.w=E.w/\Ext b B E E' /\Sim B F (Bb b x H) E' /\Rel E' x v:=by
 unfold Bb;split
 . rename_i h;simp only[Zr1,Zss] at h;obtain⟨X,S'⟩:=S.drop (p:=fun f _=>Nat.ble b f) (H' :=H.take b) (k:=b) (fun f s h=>Ztq h) (fun f s=>Q7l H b f s)
    (fun f s o ho=>Qbe (H.take b) f s o h.2 ho)
   exact⟨E.drop _,rfl,X,S',Rel.strike x v h.1 r⟩
 . exact⟨E,rfl,Ext.refl _ _ _,S,r⟩
theorem Qg5(b:Nat)(x:V)(H:Heap)(h:b<=H.length):b<=(Bb b x H).length:=by
 unfold Bb;split
 . simp;omega
 . exact h
theorem Qmj(p:Nat->Bool):∀(fr:Frame) (s:Nat),Bi (Jb p fr) s=if p s then none else Bi fr s
 |[],s=>by simp[Jb,Bi]
 |(k,o)::r,s=>by
  simp only[Jb];split
  . rename_i hk;rw[Qmj p r s];simp only[Bi];by_cases e:s=k
    . subst e;simp[hk]
    . simp[e]
  . rename_i hk;simp only[Bi];by_cases e:s=k
    . subst e;simp[hk]
    . simp only[e,if_false];exact Qmj p r s
theorem Qe7(H:Heap)(fr:Nat)(ds:List Nat)(f s:Nat):
 Qd (H.modify fr (Jb fun s=>ds.contains s)) f s=if(f==fr&&ds.contains s) then none else Qd H f s:=by
 unfold Qd;rw[Zq9];by_cases e:fr=f
 . subst e;cases H[fr]? with
   |none=>simp
   |some x=>simp[Qmj]
 . have:(f==fr)=false:=by simp;omega
   simp only[e,if_false,this,Zt8,Zre];cases H[f]?<;>rfl
theorem Qr4(keep:List Nat):∀(t:List V) (vs:List Value) (i:Nat),Qe E t vs->Qe E (Yf keep t i) vs
 |[],vs,i,r=>r
 |x::t,vs,i,r=>by
  obtain⟨v,r',rfl,hv,hr⟩:=Qe.cons_iff.1 r;refine .cons ?_ (Qr4 keep t r' (i+1) hr);split
  . exact hv
  . simp[Rel]
theorem Sim.forgetK(S:Sim B F H E){pol:Pol}{fn fr r:Nat}{t t' :List V}{H' :Heap}{vs:List Value}(h:forgetK pol fn fr r t H=some (t',H'))(hr:Qe E t vs):
 ∃E',E'.w=E.w/\Ext fr B E E' /\Sim B F H' E' /\Qe E' t' vs/\H'.length=H.length:=by
 unfold AM.forgetK at h;split at h
 . cases h;exact⟨E,rfl,Ext.refl _ _ _,S,hr,rfl⟩
 . rename_i kt ds _;split at h
   . cases h
   . rename_i h1;split at h
     case isFalse=>cases h
     rename_i h2;cases h;obtain⟨X,S'⟩:=S.drop (p:=fun f s=>f==fr&&ds.contains s) (H' :=H.modify fr (Jb fun s=>ds.contains s)) (k:=fr)
      (fun f s h=>by simp only[Zr1,beq_iff_eq] at h;omega) (fun f s=>Qe7 H fr ds f s) (fun f s o ho=>Qbe _ f s o h2 ho)
     exact⟨E.drop _,rfl,X,S',Qe.strike _ _ (by simpa using h1) (Qr4 kt t vs 0 hr),by simp⟩
theorem Sim.dropOne(S:Sim B F H E){fr s:Nat}{t:List V}{H' :Heap}{vs:List Value}(h:dropOne fr s t H=some H')(hr:Qe E t vs):
 ∃E',E'.w=E.w/\Ext fr B E E' /\Sim B F H' E' /\Qe E' t vs/\H'.length=H.length:=by
 unfold AM.dropOne at h;split at h
 . cases h;exact⟨E,rfl,Ext.refl _ _ _,S,hr,rfl⟩
 . rename_i h1;split at h
   case isFalse=>cases h
   rename_i h2;cases h;obtain⟨X,S'⟩:=S.drop (p:=Je fr s) (H' :=H.modify fr (Jb fun x=>[s].contains x)) (k:=fr)
    (fun f s h=>by simp only[Je,Zr1,beq_iff_eq] at h;omega) (fun f s' =>Qe7 H fr [s] f s') (fun f s' o ho=>Qbe _ f s' o h2 ho)
   exact⟨E.drop _,rfl,X,S',Qe.strike _ _ (by simpa using h1) hr,by simp⟩
theorem Sim.dropAll{fr:Nat}{t:List V}{vs:List Value}:∀(ds:List Nat) {H H' :Heap} {E:Env},Sim B F H E->dropAll fr t ds H=some H' ->Qe E t vs->
 ∃E',E'.w=E.w/\Ext fr B E E' /\Sim B F H' E' /\Qe E' t vs/\H'.length=H.length
 |[],H,H',E,S,h,hr=>by
  simp only[AM.dropAll,Zui] at h;subst h;exact⟨E,rfl,Ext.refl _ _ _,S,hr,rfl⟩
 |s::r,H,H',E,S,h,hr=>by
  simp only[AM.dropAll] at h;split at h
  . rename_i H1 h1;obtain⟨E1,a1,a2,a3,a4,a5⟩:=S.dropOne h1 hr;obtain⟨E2,b1,b2,b3,b4,b5⟩:=Sim.dropAll r a3 h a4;exact⟨E2,b1.trans a1,a2.trans b2,b3,b4,b5.trans a5⟩
  . cases h
def Env.ren(E:Env)(fr a b:Nat):Env:=
 {w:=E.w,mu:=fun f s=>if f=fr/\s=b then E.mu fr a else if f=fr/\s=a then none else E.mu f s
  reg:=fun f s=>if f=fr/\s=b then E.reg fr a else if f=fr/\s=a then none else E.reg f s,mod:=E.mod,tab:=E.tab}
theorem Qcv{fr s f s' :Nat}:Je fr s f s' =true↔f=fr/\s' =s:=by simp[Je]
theorem Q9w{fr s f s' :Nat}(h:¬(f=fr/\s' =s)):Je fr s f s' =false:=by
 cases e:Je fr s f s' with
 |false=>rfl
 |true=>exact absurd (Qcv.1 e) h
theorem Q6r(fr s:Nat):Je fr s fr s=true:=Qcv.2 ⟨rfl,rfl⟩
theorem Env.ren_b(E:Env)(fr a b:Nat):(E.ren fr a b).mu fr b=E.mu fr a/\(E.ren fr a b).reg fr b=E.reg fr a:=by simp[Env.ren]
theorem Env.ren_o(E:Env){fr a b f s:Nat}(h:¬(f=fr/\s=b)):(E.ren fr a b).mu f s=(E.drop (Je fr a)).mu f s/\(E.ren fr a b).reg f s=(E.drop (Je fr a)).reg f s:=by
 by_cases e:f=fr/\s=a
 . obtain⟨rfl,rfl⟩:=e;have hb:¬s=b:=fun e=>h ⟨rfl,e⟩;simp only[Env.ren,Env.drop,Q6r,if_true,and_self,hb,and_false,if_false]
 . simp only[Env.ren,Env.drop,if_neg h,if_neg e,Q9w e,Zre,if_false,and_self]
theorem Sim.moveOne(S:Sim B F H E){fr a b:Nat}{t t' :List V}{H' :Heap}{vs:List Value}(h:moveOne fr a b t H=some (t',H'))(hr:Qe E t vs):
 ∃E',E'.w=E.w/\Ext fr B E E' /\Sim B F H' E' /\Qe E' t' vs/\H'.length=H.length:=by
 unfold AM.moveOne at h;split at h
 case h_2=>cases h;exact⟨E,rfl,Ext.refl _ _ _,S,hr,rfl⟩
 rename_i n ha hb;split at h
 . cases h
 rename_i h1;split at h
 case isFalse=>cases h
 rename_i h2;cases h;have hfr:=Yr ha;have hab:¬a=b:=by rintro rfl;rw[ha] at hb;cases hb
 obtain⟨X,S1⟩:=S.drop (p:=Je fr a) (H' :=H.modify fr (Jb fun x=>[a].contains x)) (k:=fr)
  (fun f s h=>by simp only[Je,Zr1,beq_iff_eq] at h;omega) (fun f s' =>Qe7 H fr [a] f s') (fun f s' o ho=>Qbe _ f s' o h2 ho)
 have hl1:(H.modify fr (Jb fun x=>[a].contains x)).length=H.length:=by simp
 have hget1:∀f s,Qd (H.modify fr (Jb fun x=>[a].contains x)) f s=if Je fr a f s then none else Qd H f s:=fun f s=>Qe7 H fr [a] f s
 generalize H.modify fr (Jb fun x=>[a].contains x)=H1 at*;have hb1:Qd H1 fr b=none:=by rw[hget1,hb];split<;>rfl
 have mb1:(E.drop (Je fr a)).mu fr b=none:=by
  have:=S1.dom fr b;rw[hb1] at this;cases e:(E.drop (Je fr a)).mu fr b with
  |none=>rfl
  |some x=>rw[e] at this;cases this
 have X2:∀k,Ext k B (E.drop (Je fr a)) (E.ren fr a b):=fun k=>by
  refine⟨Zrf _,fun _ _ _ h=>h,fun _ _ _ _ h=>h,fun _ _ _ _ h=>h,?_,?_,fun _ _=>rfl,⟨rfl,rfl,rfl⟩,rfl,fun _ h=>h⟩
  . intro f s x _ hx;by_cases e:f=fr/\s=b
    . obtain⟨rfl,rfl⟩:=e;rw[mb1] at hx;cases hx
    . rw[(E.ren_o e).1];exact hx
  . intro f s n b' lo hi _ hs hx;by_cases e:f=fr/\s=b
    . obtain⟨rfl,rfl⟩:=e;rw[mb1] at hs;cases hs
    . rw[(E.ren_o e).2] at hx;exact⟨n,b',lo,hi,hx,.inr ⟨rfl,rfl,rfl,rfl⟩⟩
 have hk:=S1.lt;refine⟨E.ren fr a b,rfl,X.trans (X2 fr),?_,?_,by rw[Zo,hl1]⟩
 . have hg2:∀f s,Qd (hset H1 fr b (.grow n)) f s=if f=fr/\s=b then some (.grow n) else Qd H1 f s:=fun f s=>Ba H1 fr b _ (by omega) f s
   have old:∀f s o,Qd H1 f s=some o->Je fr a f s=false/\Qd H f s=some o:=by
    intro f s o ho;rw[hget1] at ho;cases hq:Je fr a f s with
    |true=>rw[hq] at ho;cases ho
    |false=>rw[hq] at ho;exact⟨rfl,ho⟩
   refine⟨?_,S.bsz,S.fb,S.fmod,S.modsz,?_,?_,?_⟩
   . intro f s;rw[hg2];by_cases e:f=fr/\s=b
     . obtain⟨rfl,rfl⟩:=e;rw[if_pos ⟨rfl,rfl⟩,(E.ren_b f a s).1,<-S.dom f a,ha]
     . rw[if_neg e,(E.ren_o e).1];exact S1.dom f s
   . intro f s o ho;rw[hg2] at ho;by_cases e:f=fr/\s=b
     . obtain⟨rfl,rfl⟩:=e;rw[if_pos ⟨rfl,rfl⟩] at ho;cases ho;obtain⟨b',lo,hi,c,T,z,q1,q2⟩:=S.obj f a _ ha;exact⟨b',lo,hi,c,T,z,(E.ren_b f a s).2.trans q1,q2⟩
     . rw[if_neg e] at ho;exact(S1.obj f s o ho).mono (X2 H1.length) hk (E.ren_o e).1 (E.ren_o e).2 fun _ _=>⟨rfl,fun _ h=>h⟩
   . intro f s m x hx;rw[hg2];by_cases e:f=fr/\s=b
     . obtain⟨rfl,rfl⟩:=e;rw[(E.ren_b f a s).2] at hx;have:=S.nreg f a m x hx;rw[ha] at this;rw[if_pos ⟨rfl,rfl⟩];exact this
     . rw[if_neg e];rw[(E.ren_o e).2] at hx;exact S1.nreg f s m x hx
   . have hbl:∀f s o,¬(f=fr/\s=b)->blk (E.ren fr a b) f s o=blk (E.drop (Je fr a)) f s o:=by
      intro f s o e;cases o<;>simp only[blk,(E.ren_o e).1,(E.ren_o e).2]
     have hbb:∀m,blk (E.ren fr a b) fr b (.grow m)=blk E fr a (.grow m):=fun m=>by simp only[blk,(E.ren_b fr a b).2]
     have hbo:∀f s o,Je fr a f s=false->blk (E.drop (Je fr a)) f s o=blk E f s o:=by intro f s o e;cases o<;>simp only[blk,E.drop_mu e,E.drop_reg e]
     intro f s o f' s' o' bl g1 g2 k1 k2;rw[hg2] at g1 g2;by_cases e:f=fr/\s=b
     . by_cases e' :f' =fr/\s' =b
       . exact⟨e.1.trans e'.1.symm,e.2.trans e'.2.symm⟩
       . rw[if_pos e] at g1;rw[if_neg e'] at g2;cases g1;obtain⟨rfl,rfl⟩:=e;obtain⟨q,g2'⟩:=old _ _ _ g2;rw[hbb] at k1;rw[hbl _ _ _ e',hbo _ _ _ q] at k2;have:=S.inj f a _ f' s' o' bl ha g2' k1 k2;rw[Qcv.2 ⟨this.1.symm,this.2.symm⟩] at q;cases q
     . by_cases e' :f' =fr/\s' =b
       . rw[if_neg e] at g1;rw[if_pos e'] at g2;cases g2;obtain⟨rfl,rfl⟩:=e';obtain⟨q,g1'⟩:=old _ _ _ g1;rw[hbb] at k2;rw[hbl _ _ _ e,hbo _ _ _ q] at k1;have:=S.inj f s o f' a _ bl g1' ha k1 k2;rw[Qcv.2 this] at q;cases q
       . rw[if_neg e] at g1;rw[if_neg e'] at g2;rw[hbl _ _ _ e] at k1;rw[hbl _ _ _ e'] at k2;exact S1.inj f s o f' s' o' bl g1 g2 k1 k2
 . have one:∀(x:V) (v:Value),(Qp4 fr a b x).refs (Je fr a)=false->Rel E x v->Rel (E.ren fr a b) (Qp4 fr a b x) v:=by
    intro x v q r;have other:Qp4 fr a b x=x->Rel (E.ren fr a b) (Qp4 fr a b x) v:=by intro e;rw[e] at q⊢;exact Rel.mono (X2 H1.length) hk x v (Rel.strike x v q r)
    cases x with
    |gS f s cs m e=>
     by_cases c:f=fr/\s=a
     . obtain⟨rfl,rfl⟩:=c;simp only[Qp4,and_self,if_true];simp only[Rel,(E.ren_b f s b).1,(E.ren_b f s b).2] at r⊢;obtain⟨b',off,cap,vs,rfl,h1,hr,hl,hrest⟩:=r;simp only[Qp4,and_self,if_true,V.refs,Zsr] at q;exact⟨b',off,cap,vs,rfl,h1,hr,Qe.mono (X2 H1.length) hk cs vs (Qe.strike cs vs q.2 hl),hrest⟩
     . exact other (by simp only[Qp4,if_neg c])
    |_=>exact other rfl
   have all:∀(t:List V) (vs:List Value),Qi (Je fr a) (t.map (Qp4 fr a b))=false->Qe E t vs->Qe (E.ren fr a b) (t.map (Qp4 fr a b)) vs:=by
    intro t
    induction t with
    |nil=>intro vs _ h;exact h
    |cons x t ih=>
     intro vs q h;simp only[Zrw,Qi,Zsr] at q;obtain⟨v,r,rfl,hv,hr⟩:=Qe.cons_iff.1 h;exact .cons (one x v q.1 hv) (ih r q.2 hr)
   exact all t vs (by simpa using h1) hr
theorem Sim.moveAll{fr b:Nat}{vs:List Value}:∀(ds:List Nat) {t t' :List V} {H H' :Heap} {E:Env},Sim B F H E->moveAll fr b ds t H=some (t',H')->Qe E t vs->
 ∃E',E'.w=E.w/\Ext fr B E E' /\Sim B F H' E' /\Qe E' t' vs/\H'.length=H.length
 |[],t,t',H,H',E,S,h,hr=>by
  simp only[AM.moveAll,Zui,Prod.mk.injEq] at h;obtain⟨rfl,rfl⟩:=h;exact⟨E,rfl,Ext.refl _ _ _,S,hr,rfl⟩
 |a::r,t,t',H,H',E,S,h,hr=>by
  simp only[AM.moveAll] at h;split at h
  . rename_i t1 H1 h1;obtain⟨E1,a1,a2,a3,a4,a5⟩:=S.moveOne h1 hr;obtain⟨E2,b1,b2,b3,b4,b5⟩:=Sim.moveAll r a3 h a4;exact⟨E2,b1.trans a1,a2.trans b2,b3,b4,b5.trans a5⟩
  . cases h
theorem Sim.forget(S:Sim B F H E){pol:Pol}{fn fr r:Nat}{t t' :List V}{H' :Heap}{vs:List Value}(h:forget pol fn fr r t H=some (t',H'))(hr:Qe E t vs):
 ∃E',E'.w=E.w/\Ext fr B E E' /\Sim B F H' E' /\Qe E' t' vs/\H'.length=H.length:=by
 unfold AM.forget at h;split at h
 . cases h
 rename_i t1 H1 h1;obtain⟨E1,a1,a2,a3,a4,a5⟩:=S.forgetK h1 hr;split at h
 . cases h;exact⟨E1,a1,a2,a3,a4,a5⟩
 rename_i ds c _;split at h
 . cases h
 rename_i H2 h2;obtain⟨E2,b1,b2,b3,b4,b5⟩:=Sim.dropAll _ a3 h2 a4;obtain⟨E3,c1,c2,c3,c4,c5⟩:=Sim.moveAll _ b3 h b4;exact⟨E3,c1.trans (b1.trans a1),(a2.trans b2).trans c2,c3,c4,c5.trans (b5.trans a5)⟩
end Go.AM
end
section
namespace Go.AM
section
variable {P : Program} {mt : Nat -> Bool} {fr : Nat}
theorem X6{α β:Type}{f g:α->β}:∀{l:List α},(∀x∈l,f x=g x)->l.map f=l.map g
 |[],_=>rfl
 |x::l,h=>by simp only[Zrw];rw[h x (by simp),X6 (fun y hy=>h y (by simp[hy]))]
theorem Qki{g g' :Get}{ρ:Operand->V}{o:Oper}(h:Q9 o.op=true):Zr P mt fr g ρ o=Zr P mt fr g' ρ o:=by unfold Zr;cases ho:o.op<;>rw[ho] at h<;>simp only[Q9,Zre] at h<;>rfl
theorem Yg{g:Get}{ρ:Operand->V}{o:Oper}(h:Q9 o.op=true){st:Zk}(he:Zr P mt fr g ρ o=some st):∃v,st= .val v none:=by
 have one:∀(x:Option V),x.map (fun v=>Zk.val v none)=some st->∃v,st= .val v none:=by
  intro x hx;cases x with
  |none=>cases hx
  |some v=>cases hx;exact⟨v,rfl⟩
 unfold Zr at he;cases ho:o.op<;>rw[ho] at h he<;>simp only[Q9,Zre] at h<;>simp only at he
 case move=>cases he;exact⟨_,rfl⟩
 case assign=>cases he;exact⟨_,rfl⟩
 case pick=>split at he<;>first|(cases he;exact⟨_,rfl⟩)|cases he
 case build=>exact one _ he
 case nilCheck=>split at he<;>first|(cases he;exact⟨_,rfl⟩)|cases he
 case binOp=>exact one _ he
 case unOp=>exact one _ he
 case makeInterface=>split at he<;>first|(cases he;exact⟨_,rfl⟩)|cases he
 case makeFunc=>cases he;exact⟨_,rfl⟩
 case fieldAddr=>(repeat' split at he)<;>first|(cases he;exact⟨_,rfl⟩)|cases he
 case field=>(repeat' split at he)<;>first|exact one _ he|cases he
 case indexAddr=>exact one _ he
 case index=>exact one _ he
 case extract=>split at he<;>first|exact one _ he|cases he
 case typeAssert=>(repeat' split at he)<;>first|(cases he;exact⟨_,rfl⟩)|cases he
 case sliceToArrayPointer=>(repeat' split at he)<;>first|(cases he;exact⟨_,rfl⟩)|cases he
theorem B4{g:Get}{ρ ρ' :Operand->V}{o:Oper}(h:∀x∈o.op.operands,ρ x=ρ' x):Zr P mt fr g ρ o=Zr P mt fr g ρ' o:=by
 unfold Zr;cases ho:o.op<;>rw[ho] at h<;>simp only[Op.operands] at h<;>simp only
 case move x=>rw[h x (by simp)]
 case assign x=>rw[h x (by simp)]
 case pick c a b=>rw[h c (by simp),h a (by simp),h b (by simp)]
 case box t x=>rw[h x (by simp)]
 case build t ps=>
  have:(ps.toList.map fun p=>(p.1,ρ p.2))=ps.toList.map fun p=>(p.1,ρ' p.2):=
   X6 fun p hp=>by rw[h p.2 (by simp;exact⟨p.1,by simpa using hp⟩)]
  rw[this]
 case buildSlice t n ps=>
  have:(ps.toList.map fun p=>(p.1,ρ p.2))=ps.toList.map fun p=>(p.1,ρ' p.2):=
   X6 fun p hp=>by rw[h p.2 (by simp;exact⟨p.1,by simpa using hp⟩)]
  rw[this]
 case load t a=>rw[h a (by simp)]
 case store t a x=>rw[h a (by simp),h x (by simp)]
 case nilCheck x=>rw[h x (by simp)]
 case binOp op t x y _=>rw[h x (by simp),h y (by simp)]
 case unOp op t x=>rw[h x (by simp)]
 case convert s d x=>rw[h x (by simp)]
 case sliceToArrayPointer t x=>rw[h x (by simp)]
 case makeInterface t x=>rw[h x (by simp)]
 case makeFunc fn a c=>have h1:a.toList.map ρ=a.toList.map ρ' :=X6 fun x hx=>h x (by simp;exact .inl (by simpa using hx));have h2:c.toList.map ρ=c.toList.map ρ' :=X6 fun x hx=>h x (by simp;exact .inr (by simpa using hx));rw[h1,h2]
 case range t x=>rw[h x (by simp)]
 case next x b=>rw[h x (by simp)]
 case entry x=>rw[h x (by simp)]
 case mapEntry t m k=>rw[h m (by simp),h k (by simp)]
 case entryStore t m s x=>rw[h m (by simp),h s (by simp),h x (by simp)]
 case makeMap t r=>
  cases P.underlying t with
  |none=>cases r<;>rfl
  |some d=>
   cases r with
   |none=>cases d<;>rfl
   |some x=>cases d<;>first|rfl|(simp only;rw[h x (by simp)])
 case makeSlice t l c=>rw[h l (by simp),h c (by simp)]
 case slice t x lo hi mx=>
  have h1:lo.map ρ=lo.map ρ' :=by cases lo with|none=>rfl|some y=>simp only[Zrb];rw[h y (by simp)]
  have h2:hi.map ρ=hi.map ρ' :=by cases hi with|none=>rfl|some y=>simp only[Zrb];rw[h y (by simp)]
  have h3:mx.map ρ=mx.map ρ' :=by cases mx with|none=>rfl|some y=>simp only[Zrb];rw[h y (by simp)]
  rw[h x (by simp),h1,h2,h3]
 case fieldAddr t x i=>rw[h x (by simp)]
 case field t x i=>rw[h x (by simp)]
 case indexAddr t x i=>rw[h x (by simp),h i (by simp)]
 case index t x i=>rw[h x (by simp),h i (by simp)]
 case lookup t m k ok=>rw[h m (by simp),h k (by simp)]
 case mapUpdate t m k x=>rw[h m (by simp),h k (by simp),h x (by simp)]
 case insert t m k x=>rw[h m (by simp),h k (by simp),h x (by simp)]
 case extract t i=>rw[h t (by simp)]
 case typeAssert x a b ok=>rw[h x (by simp)]
 case panic x=>rw[h x (by simp)]
 case call c=>
  have h1:c.args.toList.map ρ=c.args.toList.map ρ' :=X6 fun x hx=>h x (by simp only[Call.operands];cases c.callee<;>simp<;>(try right)<;>simpa using hx);cases hc:c.callee with
  |value f=>simp only[h1];rw[h f (by simp[Call.operands,hc])]
  |invoke r m=>rfl
  |builtin b=>simp only[h1]
theorem Q3d{ρ:Operand->V}{o:Oper}{x:Operand}{f s:Nat}(hx:x∈o.op.operands)(h:(ρ x).id?=some (f,s)):(f,s)∈Kp fr ρ o:=by simp only[Kp,Zr5,List.mem_filterMap];exact .inr ⟨x,by simpa using hx,h⟩
theorem Qn5{ρ:Operand->V}{o:Oper}{d:Nat}(h:o.dst=some d):(fr,d)∈Kp fr ρ o:=by simp[Kp,h]
theorem Bt{g g' :Get}{esz:Nat}{x:V}(h:∀f s,x.id?=some (f,s)->g f s=g' f s):Ql g esz x=Ql g' esz x:=by cases x<;>simp only[Ql];rw[h _ _ rfl]
theorem Y2{g g' :Get}{dst:Option Nat}{o:O}{v:Nat->V}(h:∀d,dst=some d->g fr d=g' fr d):new g fr dst o v=new g' fr dst o v:=by
 cases dst with
 |none=>rfl
 |some d=>simp only[new];rw[h d rfl]
theorem Qd8{g g' :Get}{dst:Option Nat}{cs chk:List V}{n esz:Nat}(h:∀d,dst=some d->g fr d=g' fr d):grown mt g fr dst cs chk n esz=grown mt g' fr dst cs chk n esz:=by
 cases dst with
 |none=>rfl
 |some d=>simp only[grown];rw[Y2 h,Y2 h]
theorem Qrn{g g' :Get}{dst:Option Nat}{t t2:TypeId}{s x:V}(hd:∀d,dst=some d->g fr d=g' fr d)(hs:∀f i,s.id?=some (f,i)->g f i=g' f i)(hx:∀f i,x.id?=some (f,i)->g f i=g' f i):
 Qq P mt fr g dst t t2 s x=Qq P mt fr g' dst t t2 s x:=by
 have h1:∀n b z,Z3 P g t2 n b z x=Z3 P g' t2 n b z x:=by
  intro n b z;unfold Z3;split
  . rfl
  . rfl
  . exact Bt hx
  . rfl
 have h2:∀n b new m,appendTo mt fr g dst n b s new m=appendTo mt fr g' dst n b s new m:=by
  intro n b new m;unfold appendTo;cases s<;>try rfl
  case nS=>simp only;rw[Qd8 hd]
  case iS cs len full=>
   cases full
   . rfl
   . simp only;rw[Qd8 hd]
  case gS=>simp only;rw[hs _ _ rfl]
  case mS=>
   simp only;rw[hs _ _ rfl];split
   . split
     . split
       . split
         . rfl
         . rw[Qd8 hd]
       . rfl
     . rfl
   . rfl
 unfold Qq;simp only[h1,h2]
theorem Qzs{g g' :Get}{ρ:Operand->V}{o:Oper}(hfar:Y9 o.op=false)(h:∀f s,(f,s)∈Kp fr ρ o->g f s=g' f s):Zr P mt fr g ρ o=Zr P mt fr g' ρ o:=by
 by_cases hq:Q9 o.op=true
 . exact Qki hq
 have own:∀d,o.dst=some d->g fr d=g' fr d:=fun d hd=>h _ _ (Qn5 hd);have opd:∀x,x∈o.op.operands->∀f s,(ρ x).id?=some (f,s)->g f s=g' f s:=fun x hx f s hi=>h f s (Q3d hx hi);unfold Zr;cases ho:o.op<;>rw[ho] at hq opd hfar<;>simp only[Op.operands] at opd<;>simp only[Q9] at hq<;>first|exact absurd rfl hq|skip
 all_goals try simp only
 case alloc t=>cases zeroCells P t<;>simp only[Option.bind_none,Zrr];exact Y2 own
 case box t x=>
  cases(ρ x).cells<;>simp only[Option.bind_none,Zrr];split
  . split
    . exact Y2 own
    . rfl
  . rfl
 case buildSlice t n ps=>
  split
  . split
    . split
      . split
        . split
          . rename_i d hd;split
            . rw[hd];exact Y2 (fun d' hd' =>own d' (hd.trans hd'))
            . rfl
          . rfl
        . rfl
      . rfl
    . rfl
  . rfl
 case load t a=>
  have:=opd a (by simp);cases hx:ρ a<;>try rfl
  simp only;rw[this _ _ (by rw[hx];rfl)]
 case store t a x=>
  have:=opd a (by simp);cases hx:ρ a with
  |ptr f s q=>
   have e:=this f s (by rw[hx];rfl);cases(ρ x).cells<;>cases sz P t<;>first|rfl|(simp only;rw[e])
  |_=>first|rfl|(cases(ρ x).cells<;>cases sz P t<;>rfl)
 case convert s d x=>
  have:=opd x (by simp);split
  . exact Y2 own
  unfold convertV;split
  . rfl
  . rfl
  . rfl
  . simp only[Bt this]
  . rename_i e0 e f s' n m hu1 hu2 hx;rw[this f s' (by rw[hx];rfl)]
  . rfl
 case entry x=>cases hfar
 case next x b=>
  have:=opd x (by simp);congr 1;unfold nextS;split
  . rename_i f s hx;rw[this f s (by rw[hx];rfl)]
  . rfl
 case range t x=>
  have:=opd x (by simp);unfold rangeV;split
  . exact Y2 own
  . exact Y2 own
  . rename_i f s hu hx;rw[this f s (by rw[hx];rfl)];split
    . exact Y2 own
    . rfl
  . rfl
 case mapEntry t m k=>
  have:=opd m (by simp);unfold mapEntryV;cases hx:ρ m<;>try rfl
  simp only;rw[this _ _ (by rw[hx];rfl)]
 case entryStore t m s x=>
  have:=opd m (by simp);unfold entryStoreV;split
  . rename_i f sl k b hx hs;rw[this f sl (by rw[hx];rfl)]
  . rfl
 case makeMap t r=>
  split
  . exact Y2 own
  . split
    . exact Y2 own
    . rfl
  . rfl
 case makeSlice t l c=>
  split
  . split
    . split
      . exact Y2 own
      . rfl
    . rfl
  . rfl
 case slice t x lo hi mx=>
  have:=opd x (by simp);congr 1;unfold Zh;cases hx:ρ x<;>try rfl
  simp only;rw[this _ _ (by rw[hx];rfl)]
 case lookup t m k ok=>
  have:=opd m (by simp);congr 1;unfold Qct;cases hx:ρ m<;>try rfl
  simp only;rw[this _ _ (by rw[hx];rfl)]
 case mapUpdate t m k x=>
  have:=opd m (by simp);unfold updateV;cases hx:ρ m<;>try rfl
  simp only;rw[this _ _ (by rw[hx];rfl)]
 case insert t m k x=>
  have:=opd m (by simp);unfold updateV;cases hx:ρ m<;>try rfl
  simp only;rw[this _ _ (by rw[hx];rfl)]
 case call c=>
  split
  . rename_i b hb;have arg:∀x∈c.args.toList,∀f s,(ρ x).id?=some (f,s)->g f s=g' f s:=fun x hx=>opd x (by simp only[Call.operands,hb];simpa using hx);have arg' :∀v∈c.args.toList.map ρ,∀f s,v.id?=some (f,s)->g f s=g' f s:=by
     intro v hv;obtain⟨x,hx,rfl⟩:=Zr3.1 hv;exact arg x hx
    generalize c.args.toList.map ρ=args at arg';unfold builtinV;split
    . split
      . exact Qrn own (arg' _ (by simp)) (arg' _ (by simp))
      . rfl
    . split
      . congr 1;rename_i x _ t _;have:=arg' x (by simp);unfold Y4;cases x with
        |map f s=>
         have e:=this f s rfl;cases P.underlying t with
         |none=>rfl
         |some d=>cases d<;>first|rfl|(simp only;rw[e])
        |_=>cases P.underlying t with
         |none=>rfl
         |some d=>cases d<;>rfl
      . rfl
    . rfl
    . split
      . rename_i d s _ t _;have hd:=arg' d (by simp);have hs:=arg' s (by simp);have e1:∀n,Bv g n s=Bv g' n s:=by
         intro n;cases s<;>first|rfl|exact Bt hs
        have e2:∀n cs m,Qbi g n d cs m=Qbi g' n d cs m:=by
         intro n cs m;cases d<;>try rfl
         simp only[Qbi];rw[hd _ _ rfl]
        unfold Qbz;simp only[e1,e2]
      . rfl
    . split
      . rename_i m k _ t _;have:=arg' m (by simp);unfold Qbt;cases m<;>try rfl
        simp only;rw[this _ _ rfl]
      . rfl
    . rfl
    . rfl
    . rfl
  . rfl
  . rfl
def NC(x:Option Zk):Prop:=∀f args,x≠some (.call f args)
theorem NC.no:NC none:=fun _ _ h=>by cases h
theorem NC.val(v:V)(w:Option (Nat×Nat×O)):NC (some (.val v w)):=fun _ _ h=>by cases h
theorem NC.panic(v:V):NC (some (.panic v)):=fun _ _ h=>by cases h
theorem NC.map{α:Type}(x:Option α)(k:α->V):NC (x.map fun v=> .val (k v) none):=by cases x<;>first|exact NC.no|exact NC.val _ _
theorem NC.new(g:Get)(dst:Option Nat)(o:O)(v:Nat->V):NC (new g fr dst o v):=by unfold AM.new;(repeat' split)<;>first|exact NC.no|exact NC.val _ _
theorem NC.grown(g:Get)(dst:Option Nat)(cs chk:List V)(n esz:Nat):NC (grown mt g fr dst cs chk n esz):=by unfold AM.grown;(repeat' split)<;>first|exact NC.no|exact NC.new _ _ _ _
theorem NC.appendTo(g:Get)(dst:Option Nat)(n b:Nat)(s:V)(nw:List V)(m:Nat):NC (appendTo mt fr g dst n b s nw m):=by unfold AM.appendTo;(repeat' split)<;>first|exact NC.no|exact NC.val _ _|exact NC.grown _ _ _ _ _ _
theorem NC.bind{α:Type}(x:Option α)(k:α->Option Zk)(h:∀a,NC (k a)):NC (x.bind k):=by cases x<;>first|exact NC.no|exact h _
theorem NC.convertV(g:Get)(s d:TypeId)(x:V):NC (convertV P g s d x):=by unfold AM.convertV;(repeat' split)<;>first|exact NC.no|exact NC.val _ _|exact NC.map _ _
theorem NC.updateV(g:Get)(t:TypeId)(m k x:V):NC (updateV P g t m k x):=by unfold AM.updateV;(repeat' split)<;>first|exact NC.no|exact NC.val _ _
theorem NC.builtinV(g:Get)(dst:Option Nat)(b:Builtin)(ts:Array TypeId)(args:List V):NC (builtinV P mt fr g dst b ts args):=by
 unfold AM.builtinV
 (repeat' split)<;>first|exact NC.no|exact NC.map _ _|(unfold Qq;(repeat' split)<;>first|exact NC.no|exact NC.val _ _|exact NC.appendTo _ _ _ _ _ _ _)|
   (unfold Qbz Qbi;(repeat' split)<;>first|exact NC.no|exact NC.val _ _)|(unfold Qbt;(repeat' split)<;>first|exact NC.no|exact NC.val _ _)
theorem NC.rangeV(g:Get)(dst:Option Nat)(t:TypeId)(x:V):NC (rangeV P g fr dst t x):=by unfold AM.rangeV;(repeat' split)<;>first|exact NC.no|exact NC.new _ _ _ _
theorem NC.nextS(g:Get)(x:V):NC (nextS g x):=by unfold AM.nextS;(repeat' split)<;>first|exact NC.no|exact NC.val _ _
theorem NC.mapEntryV(g:Get)(t:TypeId)(m k:V):NC (mapEntryV P g t m k):=by unfold AM.mapEntryV;(repeat' split)<;>first|exact NC.no|exact NC.val _ _
theorem NC.mapB{α:Type}(x:Option α)(k:α->Option (Nat×Nat×O)):NC (x.map fun v=> .val .bad (k v)):=by cases x<;>first|exact NC.no|exact NC.val _ _
theorem NC.entryStoreV(g:Get)(m s x:V):NC (entryStoreV g m s x):=by unfold AM.entryStoreV;(repeat' split)<;>first|exact NC.no|exact NC.mapB _ _
theorem Qsd{g g' :Get}{ρ:Operand->V}{o:Oper}{f:FuncId}{args:List V}(h:Zr P mt fr g ρ o=some (.call f args)):Zr P mt fr g' ρ o=some (.call f args):=by
 by_cases hc:∃c,o.op= .call c
 . obtain⟨c,hc⟩:=hc;unfold Zr at h⊢;rw[hc] at h⊢;simp only at h⊢;split at h
   . exact absurd h (NC.builtinV _ _ _ _ _ _ _)
   . exact h
   . cases h
 . have nc:NC (Zr P mt fr g ρ o):=?_
   . exact absurd h (nc _ _)
   unfold Zr;cases ho:o.op
   case call c=>exact absurd ⟨c,ho⟩ hc
   all_goals simp only
   all_goals first
    |exact NC.no|exact NC.val _ _|exact NC.map _ _|exact NC.convertV _ _ _ _|exact NC.updateV _ _ _ _ _
    |exact NC.bind _ _ fun _=>NC.new _ _ _ _|exact NC.bind _ _ fun _=>(by(repeat' split)<;>first|exact NC.no|exact NC.val _ _|exact NC.new _ _ _ _)|exact NC.rangeV _ _ _ _|exact NC.mapEntryV _ _ _ _|exact NC.entryStoreV _ _ _ _
    |((repeat' split)<;>first|exact NC.no|exact NC.val _ _|exact NC.panic _|exact NC.map _ _|exact NC.new _ _ _ _|exact NC.convertV _ _ _ _|exact NC.nextS _ _)
end
end Go.AM
end
