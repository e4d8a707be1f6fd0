/- This file holds in one the texts An16, An19, An20; each says at its head what it proves. -/
import Derived.Test.YtmapmgfiamfocaaGreatT6
set_option linter.unusedSimpArgs false
set_option linter.unusedVariables false
section
namespace Go.AM
variable {P : Program} {E : Env} {B : Nat} {F : Nat -> Nat -> Prop} {H : Qg}
def Env.drop(E:Env)(p:Nat->Nat->Bool):Env:=
 {w:=E.w,mu:=fun f s=>if p f s then none else E.mu f s,reg:=fun f s=>if p f s then none else E.reg f s,mod:=E.mod,tab:=E.tab}
theorem Env.drop_mu(E:Env){p:Nat->Nat->Bool}{f s:Nat}(h:p f s=false):(E.drop p).mu f s=E.mu f s:=by simp[Env.drop,h]
theorem Env.drop_reg(E:Env){p:Nat->Nat->Bool}{f s:Nat}(h:p f s=false):(E.drop p).reg f s=E.reg f s:=by simp[Env.drop,h]
mutual
theorem Rel.strike{p:Nat->Nat->Bool}:∀(x:V) (v:Value),x.refs p=false->Rel E x v->Rel (E.drop p) x v
 | .bad,_,_,_=>by simp[Rel]
 | .bool _,_,_,r| .int _ _,_,_,r| .str _,_,_,r| .nP,_,_,r| .nS,_,_,r| .nM,_,_,r| .nF,_,_,r| .nI,_,_,r| .byte,_,_,r=>by
   simpa only[Rel] using r
 | .ptr f s o,_,q,r=>by
   simp only[V.refs] at q;simp only[Rel,E.drop_mu q] at r⊢;exact r
 | .iptr cells o,_,_,r=>by
   simp only[Rel] at r⊢;obtain⟨b,off,vs,rfl,hr,hl,hp⟩:=r;exact⟨b,off,vs,rfl,hr,Qr.dress (E:=E) (E' :=E.drop p) rfl rfl cells vs hp hl,hp⟩
 | .iS cells len full,_,_,r=>by
   simp only[Rel] at r⊢;obtain⟨a,cap,vs,rfl,h1,h2,hr,hl,hp⟩:=r;exact⟨a,cap,vs,rfl,h1,h2,hr,Qr.dress (E:=E) (E' :=E.drop p) rfl rfl cells vs hp hl,hp⟩
 | .gS f s cells len esz,_,q,r=>by
   simp only[V.refs,Zf5] at q;simp only[Rel,E.drop_mu q.1,E.drop_reg q.1] at r⊢;obtain⟨b,off,cap,vs,rfl,h1,hr,hl,hrest⟩:=r;exact⟨b,off,cap,vs,rfl,h1,hr,Qr.strike cells vs q.2 hl,hrest⟩
 | .rptr cells o,_,q,r=>by
   simp only[V.refs] at q;simp only[Rel] at r⊢;obtain⟨b,off,vs,rfl,hr,hl⟩:=r;exact⟨b,off,vs,rfl,hr,Qr.strike cells vs q hl⟩
 | .mS f s o len cap esz,_,q,r=>by
   simp only[V.refs] at q;simp only[Rel,E.drop_mu q] at r⊢;exact r
 | .mg f s len esz,_,q,r=>by
   simp only[V.refs] at q;simp only[Rel,E.drop_mu q,E.drop_reg q] at r⊢;exact r
 | .mp f s o len,_,q,r=>by
   simp only[V.refs] at q;simp only[Rel,E.drop_mu q,E.drop_reg q] at r⊢;exact r
 | .map f s,_,q,r=>by
   simp only[V.refs] at q;simp only[Rel,E.drop_mu q] at r⊢;exact r
 | .yield f s,_,q,r=>by
   simp only[V.refs] at q;simp only[Rel,E.drop_mu q] at r⊢;exact r
 | .func fn first captured,_,q,r=>by
   simp only[V.refs,Zf5] at q;simp only[Rel] at r⊢;obtain⟨fs,cs,rfl,h1,h2⟩:=r;exact⟨fs,cs,rfl,Qr.strike first fs q.1 h1,Qr.strike captured cs q.2 h2⟩
 | .face t x,_,q,r=>by
   simp only[V.refs] at q;simp only[Rel] at r⊢;obtain⟨c,rfl,hc⟩:=r;exact⟨c,rfl,Rel.strike x c q hc⟩
 | .agg cells,_,q,r=>by
   simp only[V.refs] at q;simp only[Rel] at r⊢;obtain⟨vs,rfl,hl⟩:=r;exact⟨vs,rfl,Qr.strike cells vs q hl⟩
 | .tuple cells,_,q,r=>by
   simp only[V.refs] at q;simp only[Rel] at r⊢;obtain⟨vs,rfl,hl⟩:=r;exact⟨vs,rfl,Qr.strike cells vs q hl⟩
theorem Qr.strike{p:Nat->Nat->Bool}:∀(xs:List V) (vs:List Value),Zv p xs=false->Qr E xs vs->Qr (E.drop p) xs vs
 |[],_,_,r=>r
 |x::xs,_,q,r=>by
  simp only[Zv,Zf5] at q;obtain⟨v,r',rfl,hv,hr⟩:=Qr.cons_iff.1 r;exact .cons (Rel.strike x v q.1 hv) (Qr.strike xs r' q.2 hr)
end
theorem Js.strike{p:Nat->Nat->Bool}:∀(es:List (V×V)) (ces:List MapEntry),Qfe p es=false->Js E es ces->Js (E.drop p) es ces
 |[],_,_,r=>r
 |(k,x)::es,_,q,r=>by
  simp only[Qfe,Zf5] at q;obtain⟨e,r',rfl,h1,h2,h3⟩:=r;exact⟨e,r',rfl,Rel.strike k _ q.1.1 h1,Rel.strike x _ q.1.2 h2,Js.strike es r' q.2 h3⟩
theorem Sim.drop(S:Sim B F H E){p:Nat->Nat->Bool}{H' :Qg}{k:Nat}(hp:∀f s,p f s=true->k<=f)
 (hget' :∀f s,Qd H' f s=if p f s then none else Qd H f s)(hno:∀f s o,Qd H' f s=some o->o.refs p=false):
 Ext k B E (E.drop p)/\Sim B F H' (E.drop p):=by
 have hold:∀f s o,Qd H' f s=some o->p f s=false/\Qd H f s=some o:=by
  intro f s o ho;rw[hget'] at ho;cases hq:p f s with
  |true=>rw[hq] at ho;cases ho
  |false=>rw[hq] at ho;exact⟨rfl,ho⟩
 refine⟨⟨Ze8 _,fun _ _ _ h=>h,fun _ _ _ _ h=>h,fun _ _ _ _ h=>h,?_,?_,fun _ _=>rfl,⟨rfl,rfl,rfl⟩,rfl,fun _ h=>h⟩,⟨?_,S.bsz,S.fb,S.fmod,S.modsz,?_,?_,?_⟩⟩
 . intro f s b hf h;have:p f s=false:=by
    cases hq:p f s with
    |true=>have:=hp f s hq;omega
    |false=>rfl
   rw[E.drop_mu this];exact h
 . intro f s n b lo hi hf hs h;have:p f s=false:=by
    cases hq:p f s with
    |true=>have:=hp f s hq;omega
    |false=>rfl
   rw[E.drop_reg this] at h;exact⟨n,b,lo,hi,h,.inr ⟨rfl,rfl,rfl,rfl⟩⟩
 . intro f s;rw[hget'];cases hq:p f s with
   |true=>simp[Env.drop,hq]
   |false=>rw[E.drop_mu hq];exact S.dom f s
 . intro f s o ho;obtain⟨hq,ho'⟩:=hold f s o ho;have hr:=hno f s o ho;have:=S.obj f s o ho';cases o with
   |cells xs=>
    obtain⟨b,c,T,vs,rest,h1,h2,h3,h4,h5,h6,h7⟩:=this;exact⟨b,c,T,vs,rest,(E.drop_mu hq).trans h1,h2,h3,h4,Qr.strike xs vs hr h5,h6,h7⟩
   |map es bs clk=>
    obtain⟨b,ces,h1,h2,h3,h4,h5⟩:=this;exact⟨b,ces,(E.drop_mu hq).trans h1,h2,h3,Js.strike es _ hr h4,h5⟩
   |iter m since seen stepped=>
    obtain⟨b,mb,h1,h2,h3,h4⟩:=this;refine⟨b,mb,(E.drop_mu hq).trans h1,h2,h3,?_⟩;cases m with
    |none=>exact h4
    |some x=>
     obtain⟨r,h5,h6⟩:=h4;exact⟨r,h5,(E.drop_mu hr).trans h6⟩
   |grow n=>
    obtain⟨b,lo,hi,c,T,z,h1,h2⟩:=this;exact⟨b,lo,hi,c,T,z,(E.drop_reg hq).trans h1,h2⟩
   |loop st pend fn rid t=>
    obtain⟨b,r,h1,h2,h3,h4,h5,h7,h8⟩:=this;exact⟨b,r,(E.drop_mu hq).trans h1,h2,h3,h4,h5,h7,Qr.strike t _ hr h8⟩
   |siter l pos=>
    obtain⟨b,h1,h2,h3⟩:=this;exact⟨b,(E.drop_mu hq).trans h1,h2,h3⟩
   |mgrow xs n=>
    obtain⟨b,lo,hi,c,T,vs,rest,h1,h2,h3,h4,h5,h6,h7,h8⟩:=this;exact⟨b,lo,hi,c,T,vs,rest,(E.drop_reg hq).trans h1,h2,h3,h4,h5,Qr.strike xs vs hr h6,h7,h8⟩
   |dead=>trivial
 . intro f s n x h;rw[hget'];cases hq:p f s with
   |true=>simp[Env.drop,hq] at h
   |false=>rw[E.drop_reg hq] at h;exact S.nreg f s n x h
 . intro f s o f' s' o' b h1 h2 h3 h4;obtain⟨q1,g1⟩:=hold f s o h1;obtain⟨q2,g2⟩:=hold f' s' o' h2;refine S.inj f s o f' s' o' b g1 g2 ?_ ?_
   . cases o<;>simp only[blk,E.drop_mu q1,E.drop_reg q1] at h3<;>exact h3
   . cases o' <;>simp only[blk,E.drop_mu q2,E.drop_reg q2] at h4<;>exact h4
theorem Qod{p:Nat->Nat->Bool}:∀(fr:Frame) (s:Nat) (o:O),Jt p fr=true->Qa4 fr s=some o->o.refs p=false
 |[],s,o,_,h=>by cases h
 |(k,q)::r,s,o,hc,h=>by
  simp only[Jt,Zfr,Zf6] at hc;simp only[Qa4] at h;split at h
  . cases h;exact hc.1
  . exact Qod r s o hc.2 h
theorem Qar{p:Nat->Nat->Bool}:∀(H:Qg) (f s:Nat) (o:O),Jj p H=true->Qd H f s=some o->o.refs p=false
 |[],f,s,o,_,h=>by simp[Qd] at h
 |fr::r,f,s,o,hc,h=>by
  simp only[Jj,Zfr] at hc;cases f with
  |zero=>exact Qod fr s o hc.1 (by simpa [Qd] using h)
  |succ f=>exact Qar r f s o hc.2 (by simpa [Qd] using h)
theorem Qdz(H:Qg)(f s:Nat):Qd (H++[[]]) f s=Qd H f s:=by
 unfold Qd;by_cases h:f<H.length
 . rw[Zfy h]
 . rw[Zfz (by omega),Ze6 (l:=H) (by omega)];by_cases e:f=H.length
   . subst e;simp[Qa4]
   . rw[Ze6];simp;omega
theorem Sim.push(S:Sim B F H E):Sim B F (H++[[]]) E where
 dom:=fun f s=>by rw[Qdz];exact S.dom f s
 bsz:=S.bsz
 fb:=S.fb
 fmod:=S.fmod
 modsz:=S.modsz
 obj:=fun f s o h=>S.obj f s o (by rw[Qdz] at h;exact h)
 nreg:=fun f s n x h=>by rw[Qdz];exact S.nreg f s n x h
 inj:=fun f s o f' s' o' b h1 h2=>S.inj f s o f' s' o' b (by rw[Qdz] at h1;exact h1) (by rw[Qdz] at h2;exact h2)
theorem Qld(H:Qg)(b f s:Nat):Qd (H.take b) f s=if Nat.ble b f then none else Qd H f s:=by
 unfold Qd;rw[Zfh];by_cases h:f<b
 . have:Nat.ble b f=false:=by
    cases hq:Nat.ble b f with
    |true=>have:=Zhs hq;omega
    |false=>rfl
   rw[if_pos h,this];rfl
 . have:Nat.ble b f=true:=Zhp (by omega);rw[if_neg h,this];rfl
theorem Sim.pop(S:Sim B F H E)(b:Nat)(x:V)(v:Value)(r:Rel E x v):
 ∃E',E'.w=E.w/\Ext b B E E' /\Sim B F (Yb b x H) E' /\Rel E' x v:=by
 unfold Yb;split
 . rename_i h;simp only[Zfr,Zf6] at h;obtain⟨X,S'⟩:=S.drop (p:=fun f _=>Nat.ble b f) (H' :=H.take b) (k:=b) (fun f s h=>Zhs h) (fun f s=>Qld H b f s)
    (fun f s o ho=>Qar (H.take b) f s o h.2 ho)
   exact⟨E.drop _,rfl,X,S',Rel.strike x v h.1 r⟩
 . exact⟨E,rfl,Ext.refl _ _ _,S,r⟩
theorem Qha(b:Nat)(x:V)(H:Qg)(h:b<=H.length):b<=(Yb b x H).length:=by
 unfold Yb;split
 . simp;omega
 . exact h
theorem Qlo(p:Nat->Bool):∀(fr:Frame) (s:Nat),Qa4 (Xq p fr) s=if p s then none else Qa4 fr s
 |[],s=>by simp[Xq,Qa4]
 |(k,o)::r,s=>by
  simp only[Xq];split
  . rename_i hk;rw[Qlo p r s];simp only[Qa4];by_cases e:s=k
    . subst e;simp[hk]
    . simp[e]
  . rename_i hk;simp only[Qa4];by_cases e:s=k
    . subst e;simp[hk]
    . simp only[e,if_false];exact Qlo p r s
theorem Qc3(H:Qg)(fr:Nat)(ds:List Nat)(f s:Nat):
 Qd (H.modify fr (Xq fun s=>ds.contains s)) f s=if(f==fr&&ds.contains s) then none else Qd H f s:=by
 unfold Qd;rw[Ze2];by_cases e:fr=f
 . subst e;cases H[fr]? with
   |none=>simp
   |some x=>simp[Qlo]
 . have:(f==fr)=false:=by simp;omega
   simp only[e,if_false,this,Zg4,Ze7];cases H[f]?<;>rfl
theorem Qrd(keep:List Nat):∀(t:List V) (vs:List Value) (i:Nat),Qr E t vs->Qr E (Bq keep t i) vs
 |[],vs,i,r=>r
 |x::t,vs,i,r=>by
  obtain⟨v,r',rfl,hv,hr⟩:=Qr.cons_iff.1 r;refine .cons ?_ (Qrd keep t r' (i+1) hr);split
  . exact hv
  . simp[Rel]
theorem Sim.forgetK(S:Sim B F H E){pol:Pol}{fn fr r:Nat}{t t' :List V}{H' :Qg}{vs:List Value}(h:forgetK pol fn fr r t H=some (t',H'))(hr:Qr E t vs):
 ∃E',E'.w=E.w/\Ext fr B E E' /\Sim B F H' E' /\Qr E' t' vs/\H'.length=H.length:=by
 unfold AM.forgetK at h;split at h
 . cases h;exact⟨E,rfl,Ext.refl _ _ _,S,hr,rfl⟩
 . rename_i kt ds _;split at h
   . cases h
   . rename_i h1;split at h
     case isFalse=>cases h
     rename_i h2;cases h;obtain⟨X,S'⟩:=S.drop (p:=fun f s=>f==fr&&ds.contains s) (H' :=H.modify fr (Xq fun s=>ds.contains s)) (k:=fr)
      (fun f s h=>by simp only[Zfr,beq_iff_eq] at h;omega) (fun f s=>Qc3 H fr ds f s) (fun f s o ho=>Qar _ f s o h2 ho)
     exact⟨E.drop _,rfl,X,S',Qr.strike _ _ (by simpa using h1) (Qrd kt t vs 0 hr),by simp⟩
theorem Sim.dropOne(S:Sim B F H E){fr s:Nat}{t:List V}{H' :Qg}{vs:List Value}(h:dropOne fr s t H=some H')(hr:Qr E t vs):
 ∃E',E'.w=E.w/\Ext fr B E E' /\Sim B F H' E' /\Qr E' t vs/\H'.length=H.length:=by
 unfold AM.dropOne at h;split at h
 . cases h;exact⟨E,rfl,Ext.refl _ _ _,S,hr,rfl⟩
 . rename_i h1;split at h
   case isFalse=>cases h
   rename_i h2;cases h;obtain⟨X,S'⟩:=S.drop (p:=Ko fr s) (H' :=H.modify fr (Xq fun x=>[s].contains x)) (k:=fr)
    (fun f s h=>by simp only[Ko,Zfr,beq_iff_eq] at h;omega) (fun f s' =>Qc3 H fr [s] f s') (fun f s' o ho=>Qar _ f s' o h2 ho)
   exact⟨E.drop _,rfl,X,S',Qr.strike _ _ (by simpa using h1) hr,by simp⟩
theorem Sim.dropAll{fr:Nat}{t:List V}{vs:List Value}:∀(ds:List Nat) {H H' :Qg} {E:Env},Sim B F H E->dropAll fr t ds H=some H' ->Qr E t vs->
 ∃E',E'.w=E.w/\Ext fr B E E' /\Sim B F H' E' /\Qr E' t vs/\H'.length=H.length
 |[],H,H',E,S,h,hr=>by
  simp only[AM.dropAll,Zic] at h;subst h;exact⟨E,rfl,Ext.refl _ _ _,S,hr,rfl⟩
 |s::r,H,H',E,S,h,hr=>by
  simp only[AM.dropAll] at h;split at h
  . rename_i H1 h1;obtain⟨E1,a1,a2,a3,a4,a5⟩:=S.dropOne h1 hr;obtain⟨E2,b1,b2,b3,b4,b5⟩:=Sim.dropAll r a3 h a4;exact⟨E2,b1.trans a1,a2.trans b2,b3,b4,b5.trans a5⟩
  . cases h
def Env.ren(E:Env)(fr a b:Nat):Env:=
 {w:=E.w,mu:=fun f s=>if f=fr/\s=b then E.mu fr a else if f=fr/\s=a then none else E.mu f s
  reg:=fun f s=>if f=fr/\s=b then E.reg fr a else if f=fr/\s=a then none else E.reg f s,mod:=E.mod,tab:=E.tab}
theorem Qd0{fr s f s' :Nat}:Ko fr s f s' =true↔f=fr/\s' =s:=by simp[Ko]
theorem Q3w{fr s f s' :Nat}(h:¬(f=fr/\s' =s)):Ko fr s f s' =false:=by
 cases e:Ko fr s f s' with
 |false=>rfl
 |true=>exact absurd (Qd0.1 e) h
theorem Q0r(fr s:Nat):Ko fr s fr s=true:=Qd0.2 ⟨rfl,rfl⟩
theorem Env.ren_b(E:Env)(fr a b:Nat):(E.ren fr a b).mu fr b=E.mu fr a/\(E.ren fr a b).reg fr b=E.reg fr a:=by simp[Env.ren]
theorem Env.ren_o(E:Env){fr a b f s:Nat}(h:¬(f=fr/\s=b)):(E.ren fr a b).mu f s=(E.drop (Ko fr a)).mu f s/\(E.ren fr a b).reg f s=(E.drop (Ko fr a)).reg f s:=by
 by_cases e:f=fr/\s=a
 . obtain⟨rfl,rfl⟩:=e;have hb:¬s=b:=fun e=>h ⟨rfl,e⟩;simp only[Env.ren,Env.drop,Q0r,if_true,and_self,hb,and_false,if_false]
 . simp only[Env.ren,Env.drop,if_neg h,if_neg e,Q3w e,Ze7,if_false,and_self]
theorem Sim.moveOne(S:Sim B F H E){fr a b:Nat}{t t' :List V}{H' :Qg}{vs:List Value}(h:moveOne fr a b t H=some (t',H'))(hr:Qr E t vs):
 ∃E',E'.w=E.w/\Ext fr B E E' /\Sim B F H' E' /\Qr E' t' vs/\H'.length=H.length:=by
 unfold AM.moveOne at h;split at h
 case h_2=>cases h;exact⟨E,rfl,Ext.refl _ _ _,S,hr,rfl⟩
 rename_i n ha hb;split at h
 . cases h
 rename_i h1;split at h
 case isFalse=>cases h
 rename_i h2;cases h;have hfr:=Q9 ha;have hab:¬a=b:=by rintro rfl;rw[ha] at hb;cases hb
 obtain⟨X,S1⟩:=S.drop (p:=Ko fr a) (H' :=H.modify fr (Xq fun x=>[a].contains x)) (k:=fr)
  (fun f s h=>by simp only[Ko,Zfr,beq_iff_eq] at h;omega) (fun f s' =>Qc3 H fr [a] f s') (fun f s' o ho=>Qar _ f s' o h2 ho)
 have hl1:(H.modify fr (Xq fun x=>[a].contains x)).length=H.length:=by simp
 have hget1:∀f s,Qd (H.modify fr (Xq fun x=>[a].contains x)) f s=if Ko fr a f s then none else Qd H f s:=fun f s=>Qc3 H fr [a] f s
 generalize H.modify fr (Xq fun x=>[a].contains x)=H1 at*;have hb1:Qd H1 fr b=none:=by rw[hget1,hb];split<;>rfl
 have mb1:(E.drop (Ko fr a)).mu fr b=none:=by
  have:=S1.dom fr b;rw[hb1] at this;cases e:(E.drop (Ko fr a)).mu fr b with
  |none=>rfl
  |some x=>rw[e] at this;cases this
 have X2:∀k,Ext k B (E.drop (Ko fr a)) (E.ren fr a b):=fun k=>by
  refine⟨Ze8 _,fun _ _ _ h=>h,fun _ _ _ _ h=>h,fun _ _ _ _ h=>h,?_,?_,fun _ _=>rfl,⟨rfl,rfl,rfl⟩,rfl,fun _ h=>h⟩
  . intro f s x _ hx;by_cases e:f=fr/\s=b
    . obtain⟨rfl,rfl⟩:=e;rw[mb1] at hx;cases hx
    . rw[(E.ren_o e).1];exact hx
  . intro f s n b' lo hi _ hs hx;by_cases e:f=fr/\s=b
    . obtain⟨rfl,rfl⟩:=e;rw[mb1] at hs;cases hs
    . rw[(E.ren_o e).2] at hx;exact⟨n,b',lo,hi,hx,.inr ⟨rfl,rfl,rfl,rfl⟩⟩
 have hk:=S1.lt;refine⟨E.ren fr a b,rfl,X.trans (X2 fr),?_,?_,by rw[Qa,hl1]⟩
 . have hg2:∀f s,Qd (Qs H1 fr b (.grow n)) f s=if f=fr/\s=b then some (.grow n) else Qd H1 f s:=fun f s=>B6 H1 fr b _ (by omega) f s
   have old:∀f s o,Qd H1 f s=some o->Ko fr a f s=false/\Qd H f s=some o:=by
    intro f s o ho;rw[hget1] at ho;cases hq:Ko fr a f s with
    |true=>rw[hq] at ho;cases ho
    |false=>rw[hq] at ho;exact⟨rfl,ho⟩
   refine⟨?_,S.bsz,S.fb,S.fmod,S.modsz,?_,?_,?_⟩
   . intro f s;rw[hg2];by_cases e:f=fr/\s=b
     . obtain⟨rfl,rfl⟩:=e;rw[if_pos ⟨rfl,rfl⟩,(E.ren_b f a s).1,<-S.dom f a,ha]
     . rw[if_neg e,(E.ren_o e).1];exact S1.dom f s
   . intro f s o ho;rw[hg2] at ho;by_cases e:f=fr/\s=b
     . obtain⟨rfl,rfl⟩:=e;rw[if_pos ⟨rfl,rfl⟩] at ho;cases ho;obtain⟨b',lo,hi,c,T,z,q1,q2⟩:=S.obj f a _ ha;exact⟨b',lo,hi,c,T,z,(E.ren_b f a s).2.trans q1,q2⟩
     . rw[if_neg e] at ho;exact(S1.obj f s o ho).mono (X2 H1.length) hk (E.ren_o e).1 (E.ren_o e).2 fun _ _=>⟨rfl,fun _ h=>h⟩
   . intro f s m x hx;rw[hg2];by_cases e:f=fr/\s=b
     . obtain⟨rfl,rfl⟩:=e;rw[(E.ren_b f a s).2] at hx;have:=S.nreg f a m x hx;rw[ha] at this;rw[if_pos ⟨rfl,rfl⟩];exact this
     . rw[if_neg e];rw[(E.ren_o e).2] at hx;exact S1.nreg f s m x hx
   . have hbl:∀f s o,¬(f=fr/\s=b)->blk (E.ren fr a b) f s o=blk (E.drop (Ko fr a)) f s o:=by
      intro f s o e;cases o<;>simp only[blk,(E.ren_o e).1,(E.ren_o e).2]
     have hbb:∀m,blk (E.ren fr a b) fr b (.grow m)=blk E fr a (.grow m):=fun m=>by simp only[blk,(E.ren_b fr a b).2]
     have hbo:∀f s o,Ko fr a f s=false->blk (E.drop (Ko fr a)) f s o=blk E f s o:=by intro f s o e;cases o<;>simp only[blk,E.drop_mu e,E.drop_reg e]
     intro f s o f' s' o' bl g1 g2 k1 k2;rw[hg2] at g1 g2;by_cases e:f=fr/\s=b
     . by_cases e' :f' =fr/\s' =b
       . exact⟨e.1.trans e'.1.symm,e.2.trans e'.2.symm⟩
       . rw[if_pos e] at g1;rw[if_neg e'] at g2;cases g1;obtain⟨rfl,rfl⟩:=e;obtain⟨q,g2'⟩:=old _ _ _ g2;rw[hbb] at k1;rw[hbl _ _ _ e',hbo _ _ _ q] at k2;have:=S.inj f a _ f' s' o' bl ha g2' k1 k2;rw[Qd0.2 ⟨this.1.symm,this.2.symm⟩] at q;cases q
     . by_cases e' :f' =fr/\s' =b
       . rw[if_neg e] at g1;rw[if_pos e'] at g2;cases g2;obtain⟨rfl,rfl⟩:=e';obtain⟨q,g1'⟩:=old _ _ _ g1;rw[hbb] at k2;rw[hbl _ _ _ e,hbo _ _ _ q] at k1;have:=S.inj f s o f' a _ bl g1' ha k1 k2;rw[Qd0.2 this] at q;cases q
       . rw[if_neg e] at g1;rw[if_neg e'] at g2;rw[hbl _ _ _ e] at k1;rw[hbl _ _ _ e'] at k2;exact S1.inj f s o f' s' o' bl g1 g2 k1 k2
 . have one:∀(x:V) (v:Value),(Qk9 fr a b x).refs (Ko fr a)=false->Rel E x v->Rel (E.ren fr a b) (Qk9 fr a b x) v:=by
    intro x v q r;have other:Qk9 fr a b x=x->Rel (E.ren fr a b) (Qk9 fr a b x) v:=by intro e;rw[e] at q⊢;exact Rel.mono (X2 H1.length) hk x v (Rel.strike x v q r)
    cases x with
    |gS f s cs m e=>
     by_cases c:f=fr/\s=a
     . obtain⟨rfl,rfl⟩:=c;simp only[Qk9,and_self,if_true];simp only[Rel,(E.ren_b f s b).1,(E.ren_b f s b).2] at r⊢;obtain⟨b',off,cap,vs,rfl,h1,hr,hl,hrest⟩:=r;simp only[Qk9,and_self,if_true,V.refs,Zf5] at q;exact⟨b',off,cap,vs,rfl,h1,hr,Qr.mono (X2 H1.length) hk cs vs (Qr.strike cs vs q.2 hl),hrest⟩
     . exact other (by simp only[Qk9,if_neg c])
    |_=>exact other rfl
   have all:∀(t:List V) (vs:List Value),Zv (Ko fr a) (t.map (Qk9 fr a b))=false->Qr E t vs->Qr (E.ren fr a b) (t.map (Qk9 fr a b)) vs:=by
    intro t
    induction t with
    |nil=>intro vs _ h;exact h
    |cons x t ih=>
     intro vs q h;simp only[Zfn,Zv,Zf5] at q;obtain⟨v,r,rfl,hv,hr⟩:=Qr.cons_iff.1 h;exact .cons (one x v q.1 hv) (ih r q.2 hr)
   exact all t vs (by simpa using h1) hr
theorem Sim.moveAll{fr b:Nat}{vs:List Value}:∀(ds:List Nat) {t t' :List V} {H H' :Qg} {E:Env},Sim B F H E->moveAll fr b ds t H=some (t',H')->Qr E t vs->
 ∃E',E'.w=E.w/\Ext fr B E E' /\Sim B F H' E' /\Qr E' t' vs/\H'.length=H.length
 |[],t,t',H,H',E,S,h,hr=>by
  simp only[AM.moveAll,Zic,Prod.mk.injEq] at h;obtain⟨rfl,rfl⟩:=h;exact⟨E,rfl,Ext.refl _ _ _,S,hr,rfl⟩
 |a::r,t,t',H,H',E,S,h,hr=>by
  simp only[AM.moveAll] at h;split at h
  . rename_i t1 H1 h1;obtain⟨E1,a1,a2,a3,a4,a5⟩:=S.moveOne h1 hr;obtain⟨E2,b1,b2,b3,b4,b5⟩:=Sim.moveAll r a3 h a4;exact⟨E2,b1.trans a1,a2.trans b2,b3,b4,b5.trans a5⟩
  . cases h
theorem Sim.forget(S:Sim B F H E){pol:Pol}{fn fr r:Nat}{t t' :List V}{H' :Qg}{vs:List Value}(h:forget pol fn fr r t H=some (t',H'))(hr:Qr E t vs):
 ∃E',E'.w=E.w/\Ext fr B E E' /\Sim B F H' E' /\Qr E' t' vs/\H'.length=H.length:=by
 unfold AM.forget at h;split at h
 . cases h
 rename_i t1 H1 h1;obtain⟨E1,a1,a2,a3,a4,a5⟩:=S.forgetK h1 hr;split at h
 . cases h;exact⟨E1,a1,a2,a3,a4,a5⟩
 rename_i ds c _;split at h
 . cases h
 rename_i H2 h2;obtain⟨E2,b1,b2,b3,b4,b5⟩:=Sim.dropAll _ a3 h2 a4;obtain⟨E3,c1,c2,c3,c4,c5⟩:=Sim.moveAll _ b3 h b4;exact⟨E3,c1.trans (b1.trans a1),(a2.trans b2).trans c2,c3,c4,c5.trans (b5.trans a5)⟩
end Go.AM
end
section
namespace Go.AM
section
variable {P : Program} {mt : Nat -> Bool} {fr : Nat}
theorem B9{α β:Type}{f g:α->β}:∀{l:List α},(∀x∈l,f x=g x)->l.map f=l.map g
 |[],_=>rfl
 |x::l,h=>by simp only[Zfn];rw[h x (by simp),B9 (fun y hy=>h y (by simp[hy]))]
theorem Qou{g g' :Get}{ρ:Operand->V}{o:Oper}(h:J9 o.op=true):K0 P mt fr g ρ o=K0 P mt fr g' ρ o:=by unfold K0;cases ho:o.op<;>rw[ho] at h<;>simp only[J9,Ze7] at h<;>rfl
theorem Qb4{g:Get}{ρ:Operand->V}{o:Oper}(h:J9 o.op=true){st:Yv}(he:K0 P mt fr g ρ o=some st):∃v,st= .val v none:=by
 have one:∀(x:Option V),x.map (fun v=>Yv.val v none)=some st->∃v,st= .val v none:=by
  intro x hx;cases x with
  |none=>cases hx
  |some v=>cases hx;exact⟨v,rfl⟩
 unfold K0 at he;cases ho:o.op<;>rw[ho] at h he<;>simp only[J9,Ze7] at h<;>simp only at he
 case move=>cases he;exact⟨_,rfl⟩
 case assign=>cases he;exact⟨_,rfl⟩
 case pick=>split at he<;>first|(cases he;exact⟨_,rfl⟩)|cases he
 case build=>exact one _ he
 case nilCheck=>split at he<;>first|(cases he;exact⟨_,rfl⟩)|cases he
 case binOp=>exact one _ he
 case unOp=>exact one _ he
 case makeInterface=>split at he<;>first|(cases he;exact⟨_,rfl⟩)|cases he
 case makeFunc=>cases he;exact⟨_,rfl⟩
 case fieldAddr=>(repeat' split at he)<;>first|(cases he;exact⟨_,rfl⟩)|cases he
 case field=>(repeat' split at he)<;>first|exact one _ he|cases he
 case indexAddr=>exact one _ he
 case index=>exact one _ he
 case extract=>split at he<;>first|exact one _ he|cases he
 case typeAssert=>(repeat' split at he)<;>first|(cases he;exact⟨_,rfl⟩)|cases he
 case sliceToArrayPointer=>(repeat' split at he)<;>first|(cases he;exact⟨_,rfl⟩)|cases he
theorem Qe3{g:Get}{ρ ρ' :Operand->V}{o:Oper}(h:∀x∈o.op.operands,ρ x=ρ' x):K0 P mt fr g ρ o=K0 P mt fr g ρ' o:=by
 unfold K0;cases ho:o.op<;>rw[ho] at h<;>simp only[Op.operands] at h<;>simp only
 case move x=>rw[h x (by simp)]
 case assign x=>rw[h x (by simp)]
 case pick c a b=>rw[h c (by simp),h a (by simp),h b (by simp)]
 case box t x=>rw[h x (by simp)]
 case build t ps=>
  have:(ps.toList.map fun p=>(p.1,ρ p.2))=ps.toList.map fun p=>(p.1,ρ' p.2):=
   B9 fun p hp=>by rw[h p.2 (by simp;exact⟨p.1,by simpa using hp⟩)]
  rw[this]
 case buildSlice t n ps=>
  have:(ps.toList.map fun p=>(p.1,ρ p.2))=ps.toList.map fun p=>(p.1,ρ' p.2):=
   B9 fun p hp=>by rw[h p.2 (by simp;exact⟨p.1,by simpa using hp⟩)]
  rw[this]
 case load t a=>rw[h a (by simp)]
 case store t a x=>rw[h a (by simp),h x (by simp)]
 case nilCheck x=>rw[h x (by simp)]
 case binOp op t x y _=>rw[h x (by simp),h y (by simp)]
 case unOp op t x=>rw[h x (by simp)]
 case convert s d x=>rw[h x (by simp)]
 case sliceToArrayPointer t x=>rw[h x (by simp)]
 case makeInterface t x=>rw[h x (by simp)]
 case makeFunc fn a c=>have h1:a.toList.map ρ=a.toList.map ρ' :=B9 fun x hx=>h x (by simp;exact .inl (by simpa using hx));have h2:c.toList.map ρ=c.toList.map ρ' :=B9 fun x hx=>h x (by simp;exact .inr (by simpa using hx));rw[h1,h2]
 case range t x=>rw[h x (by simp)]
 case next x b=>rw[h x (by simp)]
 case entry x=>rw[h x (by simp)]
 case mapEntry t m k=>rw[h m (by simp),h k (by simp)]
 case entryStore t m s x=>rw[h m (by simp),h s (by simp),h x (by simp)]
 case makeMap t r=>
  cases P.underlying t with
  |none=>cases r<;>rfl
  |some d=>
   cases r with
   |none=>cases d<;>rfl
   |some x=>cases d<;>first|rfl|(simp only;rw[h x (by simp)])
 case makeSlice t l c=>rw[h l (by simp),h c (by simp)]
 case slice t x lo hi mx=>
  have h1:lo.map ρ=lo.map ρ' :=by cases lo with|none=>rfl|some y=>simp only[Ze4];rw[h y (by simp)]
  have h2:hi.map ρ=hi.map ρ' :=by cases hi with|none=>rfl|some y=>simp only[Ze4];rw[h y (by simp)]
  have h3:mx.map ρ=mx.map ρ' :=by cases mx with|none=>rfl|some y=>simp only[Ze4];rw[h y (by simp)]
  rw[h x (by simp),h1,h2,h3]
 case fieldAddr t x i=>rw[h x (by simp)]
 case field t x i=>rw[h x (by simp)]
 case indexAddr t x i=>rw[h x (by simp),h i (by simp)]
 case index t x i=>rw[h x (by simp),h i (by simp)]
 case lookup t m k ok=>rw[h m (by simp),h k (by simp)]
 case mapUpdate t m k x=>rw[h m (by simp),h k (by simp),h x (by simp)]
 case insert t m k x=>rw[h m (by simp),h k (by simp),h x (by simp)]
 case extract t i=>rw[h t (by simp)]
 case typeAssert x a b ok=>rw[h x (by simp)]
 case panic x=>rw[h x (by simp)]
 case call c=>
  have h1:c.args.toList.map ρ=c.args.toList.map ρ' :=B9 fun x hx=>h x (by simp only[Call.operands];cases c.callee<;>simp<;>(try right)<;>simpa using hx);cases hc:c.callee with
  |value f=>simp only[h1];rw[h f (by simp[Call.operands,hc])]
  |invoke r m=>rfl
  |builtin b=>simp only[h1]
theorem Q6h{ρ:Operand->V}{o:Oper}{x:Operand}{f s:Nat}(hx:x∈o.op.operands)(h:(ρ x).id?=some (f,s)):(f,s)∈Xr fr ρ o:=by simp only[Xr,Zfw,List.mem_filterMap];exact .inr ⟨x,by simpa using hx,h⟩
theorem Qze{ρ:Operand->V}{o:Oper}{d:Nat}(h:o.dst=some d):(fr,d)∈Xr fr ρ o:=by simp[Xr,h]
theorem Qcr{g g' :Get}{esz:Nat}{x:V}(h:∀f s,x.id?=some (f,s)->g f s=g' f s):Z3 g esz x=Z3 g' esz x:=by
 cases x<;>simp only[Z3]
 . rw[h _ _ rfl]
 . rw[h _ _ rfl]
theorem Xg{g g' :Get}{dst:Option Nat}{o:O}{v:Nat->V}(h:∀d,dst=some d->g fr d=g' fr d):new g fr dst o v=new g' fr dst o v:=by
 cases dst with
 |none=>rfl
 |some d=>simp only[new];rw[h d rfl]
theorem Qg9{g g' :Get}{dst:Option Nat}{cs chk:List V}{n esz:Nat}(h:∀d,dst=some d->g fr d=g' fr d):grown mt g fr dst cs chk n esz=grown mt g' fr dst cs chk n esz:=by
 cases dst with
 |none=>rfl
 |some d=>simp only[grown];rw[Xg h,Xg h,Xg h]
theorem Qqj{g g' :Get}{dst:Option Nat}{t t2:TypeId}{s x:V}(hd:∀d,dst=some d->g fr d=g' fr d)(hs:∀f i,s.id?=some (f,i)->g f i=g' f i)(hx:∀f i,x.id?=some (f,i)->g f i=g' f i):
 Yi P mt fr g dst t t2 s x=Yi P mt fr g' dst t t2 s x:=by
 have h1:∀n b z,Qcj P g t2 n b z x=Qcj P g' t2 n b z x:=by
  intro n b z;unfold Qcj;split
  . rfl
  . rfl
  . exact Qcr hx
  . rfl
 have h2:∀n b new m,appendTo mt fr g dst n b s new m=appendTo mt fr g' dst n b s new m:=by
  intro n b new m;unfold appendTo;cases s<;>try rfl
  case nS=>simp only;rw[Qg9 hd]
  case iS cs len full=>
   cases full
   . rfl
   . simp only;rw[Qg9 hd]
  case gS=>simp only;rw[hs _ _ rfl]
  case mg=>simp only;rw[hs _ _ rfl]
  case mS=>
   simp only;rw[hs _ _ rfl];split
   . split
     . split
       . split
         . rfl
         . rw[Qg9 hd]
       . rfl
     . rfl
   . rfl
 unfold Yi;simp only[h1,h2]
theorem Qt2{g g' :Get}{ρ:Operand->V}{o:Oper}(hfar:Qjz o.op=false)(h:∀f s,(f,s)∈Xr fr ρ o->g f s=g' f s):K0 P mt fr g ρ o=K0 P mt fr g' ρ o:=by
 by_cases hq:J9 o.op=true
 . exact Qou hq
 have own:∀d,o.dst=some d->g fr d=g' fr d:=fun d hd=>h _ _ (Qze hd);have opd:∀x,x∈o.op.operands->∀f s,(ρ x).id?=some (f,s)->g f s=g' f s:=fun x hx f s hi=>h f s (Q6h hx hi);unfold K0;cases ho:o.op<;>rw[ho] at hq opd hfar<;>simp only[Op.operands] at opd<;>simp only[J9] at hq<;>first|exact absurd rfl hq|skip
 all_goals try simp only
 case alloc t=>cases zeroCells P t<;>simp only[Option.bind_none,Zf4];exact Xg own
 case box t x=>
  cases(ρ x).cells<;>simp only[Option.bind_none,Zf4];split
  . split
    . exact Xg own
    . rfl
  . rfl
 case buildSlice t n ps=>
  split
  . split
    . split
      . split
        . split
          . rename_i d hd;split
            . rw[hd];exact Xg (fun d' hd' =>own d' (hd.trans hd'))
            . rfl
          . rfl
        . rfl
      . rfl
    . rfl
  . rfl
 case load t a=>
  have:=opd a (by simp);cases hx:ρ a<;>try rfl
  . simp only;rw[this _ _ (by rw[hx];rfl)]
  . simp only;rw[this _ _ (by rw[hx];rfl)]
 case store t a x=>
  have:=opd a (by simp);cases hx:ρ a with
  |ptr f s q=>
   have e:=this f s (by rw[hx];rfl);cases(ρ x).cells<;>cases sz P t<;>first|rfl|(simp only;rw[e])
  |mp f s q k=>
   have e:=this f s (by rw[hx];rfl);cases(ρ x).cells<;>cases sz P t<;>first|rfl|(simp only;rw[e])
  |_=>first|rfl|(cases(ρ x).cells<;>cases sz P t<;>rfl)
 case convert s d x=>
  have:=opd x (by simp);split
  . exact Xg own
  unfold convertV;split
  . rfl
  . rfl
  . rfl
  . simp only[Qcr this]
  . rename_i e0 e f s' n m hu1 hu2 hx;rw[this f s' (by rw[hx];rfl)]
  . rfl
 case entry x=>cases hfar
 case next x b=>
  have:=opd x (by simp);congr 1;unfold nextS;split
  . rename_i f s hx;rw[this f s (by rw[hx];rfl)]
  . rfl
 case range t x=>
  have:=opd x (by simp);unfold rangeV;split
  . exact Xg own
  . exact Xg own
  . rename_i f s hu hx;rw[this f s (by rw[hx];rfl)];split
    . exact Xg own
    . rfl
  . rfl
 case mapEntry t m k=>
  have:=opd m (by simp);unfold mapEntryV;cases hx:ρ m<;>try rfl
  simp only;rw[this _ _ (by rw[hx];rfl)]
 case entryStore t m s x=>
  have:=opd m (by simp);unfold entryStoreV;split
  . rename_i f sl k b hx hs;rw[this f sl (by rw[hx];rfl)]
  . rfl
 case makeMap t r=>
  split
  . exact Xg own
  . split
    . exact Xg own
    . rfl
  . rfl
 case makeSlice t l c=>
  split
  . split
    . split
      . exact Xg own
      . rfl
    . rfl
  . rfl
 case slice t x lo hi mx=>
  have:=opd x (by simp);congr 1;unfold Qci;cases hx:ρ x<;>try rfl
  simp only;rw[this _ _ (by rw[hx];rfl)]
 case lookup t m k ok=>
  have:=opd m (by simp);congr 1;unfold Bu;cases hx:ρ m<;>try rfl
  simp only;rw[this _ _ (by rw[hx];rfl)]
 case mapUpdate t m k x=>
  have:=opd m (by simp);unfold updateV;cases hx:ρ m<;>try rfl
  simp only;rw[this _ _ (by rw[hx];rfl)]
 case insert t m k x=>
  have:=opd m (by simp);unfold updateV;cases hx:ρ m<;>try rfl
  simp only;rw[this _ _ (by rw[hx];rfl)]
 case call c=>
  split
  . rename_i b hb;have arg:∀x∈c.args.toList,∀f s,(ρ x).id?=some (f,s)->g f s=g' f s:=fun x hx=>opd x (by simp only[Call.operands,hb];simpa using hx);have arg' :∀v∈c.args.toList.map ρ,∀f s,v.id?=some (f,s)->g f s=g' f s:=by
     intro v hv;obtain⟨x,hx,rfl⟩:=Zfm.1 hv;exact arg x hx
    generalize c.args.toList.map ρ=args at arg';unfold builtinV;split
    . split
      . exact Qqj own (arg' _ (by simp)) (arg' _ (by simp))
      . rfl
    . split
      . congr 1;rename_i x _ t _;have:=arg' x (by simp);unfold Qaw;cases x with
        |map f s=>
         have e:=this f s rfl;cases P.underlying t with
         |none=>rfl
         |some d=>cases d<;>first|rfl|(simp only;rw[e])
        |_=>cases P.underlying t with
         |none=>rfl
         |some d=>cases d<;>rfl
      . rfl
    . rfl
    . split
      . rename_i d s _ t _;have hd:=arg' d (by simp);have hs:=arg' s (by simp);have e1:∀n,Qf4 g n s=Qf4 g' n s:=by
         intro n;cases s<;>first|rfl|exact Qcr hs
        have e2:∀n cs m,Qgv g n d cs m=Qgv g' n d cs m:=by
         intro n cs m;cases d<;>try rfl
         simp only[Qgv];rw[hd _ _ rfl]
        unfold Qgq;simp only[e1,e2]
      . rfl
    . split
      . rename_i m k _ t _;have:=arg' m (by simp);unfold X9;cases m<;>try rfl
        simp only;rw[this _ _ rfl]
      . rfl
    . split
      . rename_i d _ t _;have:=arg' d (by simp);unfold Qi3;cases d<;>try rfl
        simp only;rw[this _ _ rfl]
      . rfl
    . rfl
    . rfl
    . rfl
  . rfl
  . rfl
def NC(x:Option Yv):Prop:=∀f args,x≠some (.call f args)
theorem NC.no:NC none:=fun _ _ h=>by cases h
theorem NC.val(v:V)(w:Option (Nat×Nat×O)):NC (some (.val v w)):=fun _ _ h=>by cases h
theorem NC.panic(v:V):NC (some (.panic v)):=fun _ _ h=>by cases h
theorem NC.map{α:Type}(x:Option α)(k:α->V):NC (x.map fun v=> .val (k v) none):=by cases x<;>first|exact NC.no|exact NC.val _ _
theorem NC.new(g:Get)(dst:Option Nat)(o:O)(v:Nat->V):NC (new g fr dst o v):=by unfold AM.new;(repeat' split)<;>first|exact NC.no|exact NC.val _ _
theorem NC.grown(g:Get)(dst:Option Nat)(cs chk:List V)(n esz:Nat):NC (grown mt g fr dst cs chk n esz):=by unfold AM.grown;(repeat' split)<;>first|exact NC.no|exact NC.val _ _|exact NC.new _ _ _ _
theorem NC.appendTo(g:Get)(dst:Option Nat)(n b:Nat)(s:V)(nw:List V)(m:Nat):NC (appendTo mt fr g dst n b s nw m):=by unfold AM.appendTo;(repeat' split)<;>first|exact NC.no|exact NC.val _ _|exact NC.grown _ _ _ _ _ _
theorem NC.bind{α:Type}(x:Option α)(k:α->Option Yv)(h:∀a,NC (k a)):NC (x.bind k):=by cases x<;>first|exact NC.no|exact h _
theorem NC.convertV(g:Get)(s d:TypeId)(x:V):NC (convertV P g s d x):=by unfold AM.convertV;(repeat' split)<;>first|exact NC.no|exact NC.val _ _|exact NC.map _ _
theorem NC.updateV(g:Get)(t:TypeId)(m k x:V):NC (updateV P g t m k x):=by unfold AM.updateV;(repeat' split)<;>first|exact NC.no|exact NC.val _ _
theorem NC.builtinV(g:Get)(dst:Option Nat)(b:Builtin)(ts:Array TypeId)(args:List V):NC (builtinV P mt fr g dst b ts args):=by
 unfold AM.builtinV
 (repeat' split)<;>first|exact NC.no|exact NC.map _ _|(unfold Yi;(repeat' split)<;>first|exact NC.no|exact NC.val _ _|exact NC.appendTo _ _ _ _ _ _ _)|
   (unfold Qgq Qgv;(repeat' split)<;>first|exact NC.no|exact NC.val _ _)|(unfold X9;(repeat' split)<;>first|exact NC.no|exact NC.val _ _)|(unfold Qi3;(repeat' split)<;>first|exact NC.no|exact NC.val _ _)
theorem NC.rangeV(g:Get)(dst:Option Nat)(t:TypeId)(x:V):NC (rangeV P g fr dst t x):=by unfold AM.rangeV;(repeat' split)<;>first|exact NC.no|exact NC.new _ _ _ _
theorem NC.nextS(g:Get)(x:V):NC (nextS g x):=by unfold AM.nextS;(repeat' split)<;>first|exact NC.no|exact NC.val _ _
theorem NC.mapEntryV(g:Get)(t:TypeId)(m k:V):NC (mapEntryV P g t m k):=by unfold AM.mapEntryV;(repeat' split)<;>first|exact NC.no|exact NC.val _ _
theorem NC.mapB{α:Type}(x:Option α)(k:α->Option (Nat×Nat×O)):NC (x.map fun v=> .val .bad (k v)):=by cases x<;>first|exact NC.no|exact NC.val _ _
theorem NC.entryStoreV(g:Get)(m s x:V):NC (entryStoreV g m s x):=by unfold AM.entryStoreV;(repeat' split)<;>first|exact NC.no|exact NC.mapB _ _
theorem Q13{g g' :Get}{ρ:Operand->V}{o:Oper}{f:FuncId}{args:List V}(h:K0 P mt fr g ρ o=some (.call f args)):K0 P mt fr g' ρ o=some (.call f args):=by
 by_cases hc:∃c,o.op= .call c
 . obtain⟨c,hc⟩:=hc;unfold K0 at h⊢;rw[hc] at h⊢;simp only at h⊢;split at h
   . exact absurd h (NC.builtinV _ _ _ _ _ _ _)
   . exact h
   . cases h
 . have nc:NC (K0 P mt fr g ρ o):=?_
   . exact absurd h (nc _ _)
   unfold K0;cases ho:o.op
   case call c=>exact absurd ⟨c,ho⟩ hc
   all_goals simp only
   all_goals first
    |exact NC.no|exact NC.val _ _|exact NC.map _ _|exact NC.convertV _ _ _ _|exact NC.updateV _ _ _ _ _
    |exact NC.bind _ _ fun _=>NC.new _ _ _ _|exact NC.bind _ _ fun _=>(by(repeat' split)<;>first|exact NC.no|exact NC.val _ _|exact NC.new _ _ _ _)|exact NC.rangeV _ _ _ _|exact NC.mapEntryV _ _ _ _|exact NC.entryStoreV _ _ _ _
    |((repeat' split)<;>first|exact NC.no|exact NC.val _ _|exact NC.panic _|exact NC.map _ _|exact NC.new _ _ _ _|exact NC.convertV _ _ _ _|exact NC.nextS _ _)
end
end Go.AM
end
section
namespace Go.AM
def Qep(ops:Array Oper)(o:Oper):List Nat:=
 o.dst.toList++(o.op.operands.toList.filterMap fun| .tmp i=>some i|_=>none)++(match o.guard with|some (j,_)=>((ops[j]?).bind (·.dst)).toList|none=>[])
def Qb5(ops:Array Oper)(a b:Oper):Bool:=
 (match a.dst with|some d=> !(Qep ops b).contains d|none=>true)&&(match b.dst with|some d=> !(Qep ops a).contains d|none=>true)
section
variable {P : Program} {pol : Pol} {C : Call} {fn fr : Nat} {ops : Array Oper}
theorem Qvu(t:List V)(dst:Option Nat)(v:V)(i:Nat)(h:dst≠some i):(Z5 t dst v)[i]?=t[i]?:=by
 cases dst with
 |none=>rfl
 |some d=>
  simp only[Z5];rw[List.getElem?_set_ne];exact fun e=>h (by rw[e])
theorem Q7s(t:List V)(dst:Option Nat)(v:V)(x:Operand)(h:∀i,x= .tmp i->dst≠some i):rho (Z5 t dst v) x=rho t x:=by
 cases x with
 |tmp i=>simp only[rho,List.getD,Qvu t dst v i (h i rfl)]
 |_=>rfl
theorem Qqw{a b:Oper}(h:Qb5 ops a b=true){v:V}(t:List V):∀x∈b.op.operands,rho (Z5 t a.dst v) x=rho t x:=by
 intro x hx;refine Q7s t a.dst v x ?_;intro i e hd;simp only[Qb5,hd,Zfr,Zf6] at h;have:i∈Qep ops b:=by subst e;simp only[Qep,Zfw,List.mem_filterMap];exact .inl (.inr ⟨.tmp i,by simpa using hx,rfl⟩)
 have h1:=h.1;simp at h1;exact h1 this
theorem Qtc{a b:Oper}(h:Qb5 ops a b=true){v:V}(t:List V):Ba ops (Z5 t a.dst v) b=Ba ops t b:=by
 unfold Ba;cases hg:b.guard with
 |none=>rfl
 |some jw=>
  obtain⟨j,want⟩:=jw;simp only;cases hd:(ops[j]?).bind (·.dst) with
  |none=>rfl
  |some d=>
   simp only[Zf4];rw[Qvu];intro e;simp only[Qb5,e,Zfr,Zf6] at h;have:d∈Qep ops b:=by simp only[Qep,Zfw,hg,hd];exact .inr (by simp)
   have h1:=h.1;simp at h1;exact h1 this
theorem Qyh{a b:Oper}(h:Qb5 ops a b=true):Qb5 ops b a=true:=by simp only[Qb5,Zfr] at h⊢;exact⟨h.2,h.1⟩
theorem Yx{a b:Oper}(h:Qb5 ops a b=true)(t:List V)(v u:V):Z5 (Z5 t a.dst v) b.dst u=Z5 (Z5 t b.dst u) a.dst v:=by
 cases ha:a.dst with
 |none=>rfl
 |some d=>
  cases hb:b.dst with
  |none=>rfl
  |some e=>
   simp only[Z5];rw[List.set_comm];intro he;subst he;simp only[Qb5,ha,hb,Zfr,Zf6] at h;have:d∈Qep ops b:=by simp[Qep,hb]
   have h1:=h.1;simp at h1;exact h1 this
theorem Qrl(s s' :Nat)(o o' :O)(h:s≠s'):∀fr:Frame,Qae (Qae fr s o) s' o' =Qae (Qae fr s' o') s o
 |[]=>by
  simp only[Qae];by_cases h1:s' <s
  . have h2:¬s<s' :=by omega
    simp only[h,h.symm,h1,h2,if_true,if_false]
  . have h2:s<s' :=by omega
    simp only[h,h.symm,h1,h2,if_true,if_false]
 |(k,p)::r=>by
  simp only[Qae];by_cases e1:s=k
  . subst e1;simp only[if_true];by_cases e2:s' <s
    . have:¬s<s' :=by omega
      simp only[Qae,h,h.symm,e2,this,if_true,if_false]
    . simp only[Qae,h,h.symm,e2,if_true,if_false]
  . by_cases e2:s' =k
    . subst e2;simp only[if_true,e1,if_false];by_cases e3:s<s'
      . have:¬s' <s:=by omega
        simp only[Qae,h,h.symm,e3,this,if_true,if_false]
      . simp only[Qae,h,e3,if_true,if_false]
    . simp only[e1,e2,if_false];by_cases e3:s<k
      . by_cases e4:s' <k
        . simp only[e3,e4,if_true,Qae,h,h.symm,if_false];by_cases e5:s' <s
          . have:¬s<s' :=by omega
            simp only[e5,this,e3,e1,if_true,if_false]
          . have:s<s' :=by omega
            simp only[e5,this,e4,e2,if_true,if_false]
        . have:¬s' <s:=by omega
          simp only[e3,e4,if_true,if_false,Qae,h.symm,e1,e2,this]
      . by_cases e4:s' <k
        . have:¬s<s' :=by omega
          simp only[e3,e4,if_true,if_false,Qae,h,e1,e2,this]
        . simp only[e3,e4,if_false,Qae,e1,e2,Qrl s s' o o' h r]
theorem Qij(H:Qg){f s f' s' :Nat}(o o' :O)(h:¬(f=f' /\s=s')):Qs (Qs H f s o) f' s' o' =Qs (Qs H f' s' o') f s o:=by
 unfold Qs;apply List.ext_getElem?;intro i;simp only[Ze2];by_cases e1:f=i
 . by_cases e2:f' =i
   . have hs:s≠s' :=fun e=>h ⟨e1.trans e2.symm,e⟩;simp only[e1,e2,if_true];cases H[i]? with
     |none=>rfl
     |some x=>simp[Qrl s s' o o' hs x]
   . simp only[e1,e2,if_true,if_false];cases H[i]?<;>rfl
 . by_cases e2:f' =i
   . simp only[e1,e2,if_true,if_false];cases H[i]?<;>rfl
   . simp only[e1,e2,if_false]
theorem Qkf(H:Qg){f s f' s' :Nat}(o:O)(h:¬(f' =f/\s' =s)):Qd (Qs H f s o) f' s' =Qd H f' s' :=by
 unfold Qd Qs;rw[Ze2];by_cases e:f=f'
 . subst e;cases H[f]? with
   |none=>rfl
   |some x=>simp[Qrm];exact fun h' =>absurd ⟨rfl,h'⟩ h
 . simp only[e,if_false];cases H[f']?<;>rfl
def Qbw:Option (Nat×Nat×O)->List (Nat×Nat)
 |none=>[]
 |some (f,s,_)=>[(f,s)]
theorem Q2p(t:List V)(H:Qg)(o:Oper){t1:List V}{H1:Qg}(h:J5 P pol C fn fr t H o=some (.normal,t1,H1)):
 (Bl P pol fn fr t H o= .quiet/\∃v,t1=Z5 t o.dst v/\H1=H/\∀(t' :List V) (H' :Qg),(∀x∈o.op.operands,rho t' x=rho t x)->J5 P pol C fn fr t' H' o=some (.normal,Z5 t' o.dst v,H')/\Bl P pol fn fr t' H' o= .quiet)\/
 (∃w v,Bl P pol fn fr t H o= .ids (Xr fr (rho t) o) (Qbw w)/\t1=Z5 t o.dst v/\H1=wr H w/\
   ∀(t' :List V) (H' :Qg),(∀x∈o.op.operands,rho t' x=rho t x)->(∀f s,(f,s)∈Xr fr (rho t) o->Qd H' f s=Qd H f s)->
    J5 P pol C fn fr t' H' o=some (.normal,Z5 t' o.dst v,wr H' w)/\Bl P pol fn fr t' H' o= .ids (Xr fr (rho t) o) (Qbw w))\/
 (Bl P pol fn fr t H o= .all/\∃v,t1=Z5 t o.dst v/\
   ∀(t' :List V),(∀x∈o.op.operands,rho t' x=rho t x)->J5 P pol C fn fr t' H o=some (.normal,Z5 t' o.dst v,H1)/\Bl P pol fn fr t' H o= .all)\/
 (Bl P pol fn fr t H o= .peek/\∃v,t1=Z5 t o.dst v/\H1=H/\
   ∀(t' :List V),(∀x∈o.op.operands,rho t' x=rho t x)->J5 P pol C fn fr t' H o=some (.normal,Z5 t' o.dst v,H)/\Bl P pol fn fr t' H o= .peek)\/
 (∃ks x,Bl P pol fn fr t H o= .side ks x/\∃v,t1=Z5 t o.dst v/\(∀y∈ks,Qd H1 y.1 y.2=Qd H y.1 y.2)/\
   (∀(t' :List V),(∀x∈o.op.operands,rho t' x=rho t x)->J5 P pol C fn fr t' H o=some (.normal,Z5 t' o.dst v,H1)/\Bl P pol fn fr t' H o= .side ks x)/\
   ∀d,x=some (fr,d)->Qd H1 fr d=Qd H fr d/\∀cs,Qd H fr d=none->pol.news fn d=some cs->∀(t' :List V),(∀x∈o.op.operands,rho t' x=rho t x)->
    J5 P pol C fn fr t' (Qs H fr d (.cells cs)) o=some (.normal,Z5 t' o.dst v,Qs H1 fr d (.cells cs))/\Bl P pol fn fr t' (Qs H fr d (.cells cs)) o= .side ks x)\/
 (∃d cs v,Bl P pol fn fr t H o= .fresh (fr,d)/\pol.news fn d=some cs/\Qd H fr d=none/\t1=Z5 t o.dst v/\H1=wr H (some (fr,d,.cells cs))/\
   ∀(t' :List V) (H' :Qg),(∀x∈o.op.operands,rho t' x=rho t x)->Qd H' fr d=none->
    J5 P pol C fn fr t' H' o=some (.normal,Z5 t' o.dst v,wr H' (some (fr,d,.cells cs)))/\Bl P pol fn fr t' H' o= .fresh (fr,d)):=by
 have hids:∀t' :List V,(∀x∈o.op.operands,rho t' x=rho t x)->Xr fr (rho t') o=Xr fr (rho t) o:=by
  intro t' ht;simp only[Xr];congr 1;have:∀l:List Operand,(∀x∈l,rho t' x=rho t x)->l.filterMap (fun x=>(rho t' x).id?)=l.filterMap fun x=>(rho t x).id?:=by
   intro l
   induction l with
   |nil=>intro _;rfl
   |cons x l ih=>intro hl;simp only[List.filterMap_cons];rw[hl x (by simp),ih (fun y hy=>hl y (by simp[hy]))]
  exact this _ (fun x hx=>ht x (by simpa using hx))
 unfold J5 at h;by_cases hq:J9 o.op=true
 . left;split at h
   . cases h
   . rename_i v w hev;obtain⟨v',hv'⟩:=Qb4 hq hev;cases hv';cases h;refine⟨by simp[Bl,hq],v,rfl,rfl,fun t' H' ht=>⟨?_,by simp[Bl,hq]⟩⟩;have e:K0 P (pol.mt fn) fr (Qd H') (rho t') o=some (.val v none):=by
      rw[Qe3 ht,Qou (g' :=Qd H) hq,hev]
     simp only[J5,e,wr]
   . rename_i v hev;obtain⟨v',hv'⟩:=Qb4 hq hev;cases hv'
   . rename_i f args hev;obtain⟨v',hv'⟩:=Qb4 hq hev;cases hv'
   . rename_i f s args hev;obtain⟨v',hv'⟩:=Qb4 hq hev;cases hv'
 . split at h
   . cases h
   . rename_i v w hev;by_cases hfar:Qjz o.op=true
     . right;right;left;cases h;refine⟨by simp[Bl,hq,hfar],v,rfl,fun t' ht=>⟨?_,by simp[Bl,hq,hfar]⟩⟩;have e:K0 P (pol.mt fn) fr (Qd H) (rho t') o=some (.val v w):=by rw[Qe3 ht,hev]
       simp only[J5,e]
     have hfar' :Qjz o.op=false:=by simpa using hfar
     by_cases hfr:∃d cs,w=some (fr,d,.cells cs)/\pol.news fn d=some cs/\Qd H fr d=none/\(Xr fr (rho t) o).contains (fr,d)=true/\∀y∈Xr fr (rho t) o,y=(fr,d)
     . obtain⟨d,cs,rfl,h1,h2,h4,h3⟩:=hfr;right;right;right;right;right;cases h;have hev' :∀(t' :List V) (H' :Qg),(∀x∈o.op.operands,rho t' x=rho t x)->Qd H' fr d=none->K0 P (pol.mt fn) fr (Qd H') (rho t') o=some (.val v (some (fr,d,.cells cs))):=fun t' H' ht hg=>by
        rw[Qe3 ht,Qt2 (g' :=Qd H) hfar' (fun f s hm=>by rw[show f=fr from congrArg Prod.fst (h3 _ hm),show s=d from congrArg Prod.snd (h3 _ hm),hg,h2]),hev]
       have hfp:∀(t' :List V) (H' :Qg),(∀x∈o.op.operands,rho t' x=rho t x)->Qd H' fr d=none->Bl P pol fn fr t' H' o= .fresh (fr,d):=fun t' H' ht hg=>by simp only[Bl,hq,hfar',Ze7,if_false,hev' t' H' ht hg,fpW,h1,hids t' ht];rw[if_pos];simp only[Zfr,Zf1,decide_eq_true_eq];exact⟨⟨⟨⟨(Qc4 _ _).2 hg,h4⟩,h3⟩,Nat.beq_refl _⟩,(O.eqb_iff _ _).2 rfl⟩
       exact⟨d,cs,v,hfp t H (fun _ _=>rfl) h2,h1,h2,rfl,rfl,fun t' H' ht hg=>⟨by simp only[J5,hev' t' H' ht hg],hfp t' H' ht hg⟩⟩
     by_cases hfs:Bl P pol fn fr t H o= .ids (Xr fr (rho t) o) (Qbw w)
     case neg=>
      exfalso;apply hfs;simp only[Bl,hq,hfar',Ze7,if_false,hev];cases w with
      |none=>rfl
      |some x=>
       obtain⟨f,s,q⟩:=x;simp only[Qbw,fpW];split
       . rfl
       . rename_i cs hn;rw[if_neg];intro hc;simp only[Zfr,Zf1,decide_eq_true_eq] at hc;obtain⟨⟨⟨⟨c3,c5⟩,c4⟩,c2⟩,c1⟩:=hc;have c1:=(O.eqb_iff _ _).1 c1;have c2:=Nat.eq_of_beq_eq_true c2;subst c1 c2;exact hfr ⟨s,cs,rfl,hn,(Qc4 _ _).1 c3,c5,c4⟩
     right;left;cases h;have hfp:∀(t' :List V) (H' :Qg),K0 P (pol.mt fn) fr (Qd H') (rho t') o=some (.val v w)->Xr fr (rho t') o=Xr fr (rho t) o->(∀f s,(f,s)∈Xr fr (rho t) o->Qd H' f s=Qd H f s)->Bl P pol fn fr t' H' o= .ids (Xr fr (rho t) o) (Qbw w):=by
      intro t' H' e hi hg;rw[<-hfs];simp only[Bl,hq,hfar',Ze7,if_false,e,hev];cases w with
      |none=>simp only[hi]
      |some x=>obtain⟨f,s,q⟩:=x;simp only[hi,Q0y pol fn fr hg]
     refine⟨w,v,hfs,rfl,rfl,fun t' H' ht hg=>?_⟩;have e:K0 P (pol.mt fn) fr (Qd H') (rho t') o=some (.val v w):=by rw[Qe3 ht,Qt2 (g' :=Qd H) hfar' hg,hev]
     exact⟨by simp only[J5,e],hfp t' H' e (hids t' ht) hg⟩
   . cases h
   . rename_i f args hev;have hfar' :Qjz o.op=false:=by
      cases ho:o.op<;>first|rfl|skip
      simp only[K0,ho] at hev;cases hx:Qgg (Qd H) (rho t _) with
      |none=>rw[hx] at hev;cases hev
      |some y=>rw[hx] at hev;cases hev
     have hcall:∀(t' :List V) (H' :Qg),(∀x∈o.op.operands,rho t' x=rho t x)->K0 P (pol.mt fn) fr (Qd H') (rho t') o=some (.call f args):=by intro t' H' ht;rw[Qe3 ht];exact Q13 hev
     by_cases hp:((pol.prim f).isNone&&pol.pureA fn f o.dst)=true
     . left;have hp' :=hp;simp only[Zfr,Zh7] at hp';have pureCall:∀(H' :Qg),Zn pol C fn fr o.dst f args H' =(Zn pol C fn fr o.dst f args H).map fun x=>(x.1,H'):=by
        intro H';simp only[Zn,hp'.1,hp'.2,if_true];split
        . split
          . rename_i v1 H2 _;cases frz (Qd H2) depth v1<;>rfl
          . rename_i v1 H2 _;cases frz (Qd H2) depth v1<;>rfl
          . rfl
        . rfl
       split at h
       . rename_i v H2 hc;cases h;have hH:H1=H:=by
          have:=pureCall H;rw[hc] at this;simp at this;exact this
         subst hH;refine⟨by simp only[Bl,hq,hfar',Ze7,if_false,hev,hp,if_true],v,rfl,rfl,fun t' H' ht=>⟨?_,?_⟩⟩
         . have:=pureCall H';rw[hc] at this;simp only[J5,hcall t' H' ht,this,Ze4]
         . simp only[Bl,hq,hfar',Ze7,if_false,hcall t' H' ht,hp,if_true]
       . cases h
       . cases h
     . by_cases hl:((pol.prim f).isNone&&pol.lift fn f)=true
       . cases hd:o.dst with
         |none=>
          right;right;left;have hp2:¬((pol.prim f).isNone&&pol.pureA fn f none)=true:=hd▸hp;split at h
          . rename_i v H2 hc;cases h;refine⟨by simp only[Bl,hq,hfar',Ze7,if_false,hev,hp2,hl,if_true,hd],v,by rw[hd],fun t' ht=>⟨?_,?_⟩⟩
            . rw[hd] at hc;simp only[J5,hcall t' H ht,hc,hd]
            . simp only[Bl,hq,hfar',Ze7,if_false,hcall t' H ht,hp2,hl,if_true,hd]
          . cases h
          . cases h
         |some d=>
          right;left;have hp2:¬((pol.prim f).isNone&&pol.pureA fn f (some d))=true:=hd▸hp;have hl' :=hl;simp only[Zfr,Zh7] at hl';have hpure:pol.pureA fn f (some d)=false:=by
           cases hx:pol.pureA fn f (some d) with
           |false=>rfl
           |true=>exact absurd (by simp[hl'.1,hx]) hp2
          have liftCall:∀(H' :Qg),(Qd H' fr d=Qd H fr d)->Zn pol C fn fr (some d) f args H' =(Zn pol C fn fr (some d) f args H).bind fun x=>match x with
           |(.ret v,_)=>(match Zn pol C fn fr (some d) f args H with
            |some _=>(match frzL (frz (fun _ _=>none) depth) args with
             |some args=>(match C f args [] with
              |some (.ret v,H2)=>(Qes H2 fr (some d) H v).map fun x=>(.ret x.1,wr H' (some (fr,x.2.1,x.2.2)))
              |_=>none)
             |none=>none)
            |none=>none)
           |_=>none:=by
           intro H' hg;simp only[Zn,hl'.1,hl'.2,hpure,Ze7,if_false,if_true];cases frzL (frz (fun _ _=>none) depth) args with
           |none=>rfl
           |some ys=>
            simp only;cases C f ys [] with
            |none=>rfl
            |some q=>
             obtain⟨q,H2⟩:=q;cases q with
             |pan v=>rfl
             |ret v=>
              simp only;have:Qes H2 fr (some d) H' v=Qes H2 fr (some d) H v:=by unfold Qes;cases v<;>simp only[hg]
              rw[this];cases Qes H2 fr (some d) H v<;>rfl
          have hshape:∀v H2,Zn pol C fn fr (some d) f args H=some (.ret v,H2)->∃o',H2=wr H (some (fr,d,o'))/\∀H',Qd H' fr d=Qd H fr d->Zn pol C fn fr (some d) f args H' =some (.ret v,wr H' (some (fr,d,o'))):=by
           intro v H2 hc;have hc0:=hc;simp only[Zn,hl'.1,hl'.2,hpure,Ze7,if_false,if_true] at hc;split at hc
           case h_2=>cases hc
           rename_i ys hys;split at hc
           case h_2=>cases hc
           rename_i v1 H1' hC;cases hL:Qes H1' fr (some d) H v1 with
           |none=>rw[hL] at hc;cases hc
           |some x=>
            rw[hL] at hc;cases hc;have hx:x.2.1=d:=by
             unfold Qes at hL;split at hL
             . rename_i hdd;split at hL
               . rename_i es bs clk _ _;cases hz:Qls (frz (Qd H1') depth) es with
                 |none=>rw[hz] at hL;cases hL
                 |some es' =>rw[hz] at hL;cases hL;cases hdd;rfl
               . cases hL
             . rename_i hdd;split at hL
               . split at hL
                 . cases hL;cases hdd;rfl
                 . cases hL
               . cases hL
             . rename_i hdd;split at hL
               . split at hL
                 . cases hL;cases hdd;rfl
                 . cases hL
               . cases hL
             . rename_i hdd;split at hL
               . cases hL;cases hdd;rfl
               . cases hL
             . cases hL
            rw[hx];refine⟨x.2.2,rfl,fun H' hg=>?_⟩;rw[liftCall H' hg,hc0];simp only[Zf4,hys,hC,hL,Ze4,hx]
          split at h
          . rename_i v H2 hc;rw[hd] at hc;cases h;obtain⟨o',rfl,hall⟩:=hshape v _ hc;have hfp:∀(t' :List V) (H' :Qg),(∀x∈o.op.operands,rho t' x=rho t x)->Bl P pol fn fr t' H' o= .ids (Xr fr (rho t) o) (Qbw (some (fr,d,o'))):=by
             intro t' H' ht;simp only[Bl,hq,hfar',Ze7,if_false,hcall t' H' ht,hp2,hl,if_true,hd,Qbw,hids t' ht]
            refine⟨some (fr,d,o'),v,hfp t H (fun _ _=>rfl),by rw[hd],rfl,fun t' H' ht hg=>⟨?_,hfp t' H' ht⟩⟩;have hgd:=hg fr d (Qze hd);simp only[J5,hcall t' H' ht,hd,hall H' hgd]
          . cases h
          . cases h
       . by_cases hk:((pol.prim f).isNone&&(pol.look fn f||pol.peek fn f))=true
         . right;right;right;left;have hk' :=hk;simp only[Zfr,Zgj,Zh7] at hk';obtain⟨k1,k23⟩:=hk';have kp:pol.pureA fn f o.dst=false:=by
            cases hx:pol.pureA fn f o.dst with
            |false=>rfl
            |true=>exact absurd (by simp[k1,hx]) hp
           have kl:pol.lift fn f=false:=by
            cases hx:pol.lift fn f with
            |false=>rfl
            |true=>exact absurd (by simp[k1,hx]) hl
           split at h
           . rename_i v H2 hc;cases h;have hH:H1=H:=by
              have hc0:=hc;cases k2:pol.look fn f with
              |true=>
               simp only[Zn,k1,kp,kl,k2,Ze7,if_false,if_true] at hc0;split at hc0
               . split at hc0
                 . obtain⟨v0,_,e0⟩:=Zgl.1 hc0;exact(congrArg Prod.snd e0).symm
                 . cases hc0
               . cases hc0
              |false=>
               have k3:pol.peek fn f=true:=by
                rcases k23 with k|k
                . rw[k2] at k;cases k
                . exact k
               simp only[Zn,k1,kp,kl,k2,k3,Ze7,if_false] at hc0;split at hc0
               . exact Qyt (Qi5 fr hc0)
               . cases hc0
             subst hH;refine⟨by simp only[Bl,hq,hfar',Ze7,if_false,hev,hp,hl,hk,if_true],v,rfl,rfl,fun t' ht=>⟨?_,?_⟩⟩
             . simp only[J5,hcall t' _ ht,hc]
             . simp only[Bl,hq,hfar',Ze7,if_false,hcall t' _ ht,hp,hl,hk,if_true]
           . cases h
           . cases h
         . have hfp:∀(t' :List V) (H' :Qg),(∀x∈o.op.operands,rho t' x=rho t x)->Bl P pol fn fr t' H' o=Qgt pol fn fr f:=fun t' H' ht=>by
            simp only[Bl,hq,hfar',Ze7,if_false,hcall t' H' ht,hp,hl,hk]
           split at h
           case h_2=>cases h
           case h_3=>cases h
           rename_i v H2 hc;cases h;by_cases hs:((pol.prim f).isNone&&!pol.look fn f)=true
           case neg=>right;right;left;have e:Qgt pol fn fr f= .all:=if_neg hs;exact⟨by rw[hfp t H (fun _ _=>rfl),e],v,rfl,fun t' ht=>⟨by simp only[J5,hcall t' H ht,hc],by rw[hfp t' H ht,e]⟩⟩
           cases hsd:pol.side fn f with
           |none=>
            right;right;left;have e:Qgt pol fn fr f= .all:=by unfold Qgt;rw[if_pos hs,hsd]
            exact⟨by rw[hfp t H (fun _ _=>rfl),e],v,rfl,fun t' ht=>⟨by simp only[J5,hcall t' H ht,hc],by rw[hfp t' H ht,e]⟩⟩
           |some y=>
            obtain⟨ks,x⟩:=y;have e:Qgt pol fn fr f= .side (ks.map fun k=>(fr,k)) (x.map fun d=>(fr,d)):=by unfold Qgt;rw[if_pos hs,hsd]
            right;right;right;right;left;have hs' :=hs;simp only[Zfr,Zh7,Zf6] at hs';obtain⟨k1,k2⟩:=hs';have kp:pol.pureA fn f o.dst=false:=by
             cases hx:pol.pureA fn f o.dst with
             |false=>rfl
             |true=>exact absurd (by simp[k1,hx]) hp
            have kl:pol.lift fn f=false:=by
             cases hx:pol.lift fn f with
             |false=>rfl
             |true=>exact absurd (by simp[k1,hx]) hl
            have hco:∀H',Zn pol C fn fr o.dst f args H' =match Qb0 pol fn f args with
             |some args=>Qgo fr (some (ks,x)) (pol.news fn) (fun H=>Qgp (pol.peek fn f) H (C f args H)) H'
             |none=>none:=fun H' =>by
             simp only[Zn,k1,kp,kl,k2,hsd,Ze7,if_false];rfl
            have hc0:=hc;rw[hco] at hc0;cases hta:Qb0 pol fn f args with
            |none=>rw[hta] at hc0;cases hc0
            |some ys=>
             rw[hta] at hc0;simp only at hc0;obtain⟨v0,g1,g2,g3,g4⟩:=Qhz fr hc0;cases g1;refine⟨_,_,(hfp t H (fun _ _=>rfl)).trans e,v,rfl,?_,fun t' ht=>⟨by simp only[J5,hcall t' H ht,hc],by rw[hfp t' H ht,e]⟩,?_⟩
             . intro y hy;obtain⟨k,hk1,rfl⟩:=Zfm.1 hy;exact g3 k hk1
             . intro d hd;have hxd:x=some d:=by
                cases x with
                |none=>cases hd
                |some z=>cases hd;rfl
               subst hxd;obtain⟨⟨l1,l2,q1⟩,q2⟩:=Qlb fr g4;refine⟨q1,fun cs hn hcs t' ht=>⟨?_,by rw[hfp t' _ ht,e]⟩⟩;have g5:=q2 cs hn hcs;have n1:∀k,k≠d->∀(A:Qg),Qd (Qs A fr d (.cells cs)) fr k=Qd A fr k:=fun k hk A=>Qkf A _ (by rintro⟨_,rfl⟩;exact hk rfl);have hfin:Zn pol C fn fr o.dst f args (Qs H fr d (.cells cs))=some (.ret v,Qs H1 fr d (.cells cs)):=by
                rw[hco,hta];have self:∀A:Qg,fr<A.length->Qd (Qs A fr d (.cells cs)) fr d=some (.cells cs):=fun A hA=>by rw[B6 A fr d _ hA,if_pos ⟨rfl,rfl⟩]
                refine Qfh fr g5 (fun k hk=>?_) (fun d' hd' =>?_)
                . by_cases hkd:k=d
                  . subst hkd;rw[self _ l1,self _ l2]
                  . rw[n1 k hkd,n1 k hkd];exact g3 k hk
                . cases hd';refine⟨⟨by rw[Qa];exact l1,by rw[Qa];exact l2,by rw[self _ l1,self _ l2]⟩,fun cs' h8=>?_⟩;rw[self _ l1] at h8;cases h8
               simp only[J5,hcall t' _ ht,hfin]
   . rename_i f s args hev;right;right;left;have he:∀t' :List V,(∀x∈o.op.operands,rho t' x=rho t x)->K0 P (pol.mt fn) fr (Qd H) (rho t') o=some (.round f s args):=fun t' ht=>by rw[Qe3 ht,hev]
     have hall:∀t' :List V,(∀x∈o.op.operands,rho t' x=rho t x)->Bl P pol fn fr t' H o= .all:=fun t' ht=>by simp only[Bl,hq,Ze7,if_false,he t' ht];split<;>rfl
     split at h
     . rename_i v H2 hc;cases h;refine⟨hall t (fun _ _=>rfl),v,rfl,fun t' ht=>⟨?_,hall t' ht⟩⟩;simp only[J5,he t' ht,hc]
     . cases h
def Qbf(P:Program)(pol:Pol)(C:Call)(fn fr:Nat)(ops:Array Oper)(T:List FP)(i:Nat)(t:List V)(H:Qg):Option (List V×Qg):=
 match ops[i]? with
 |none=>none
 |some o=>match Ba ops t o with
  |none=>none
  |some false=>if T.getD i .all= .quiet then some (Z5 t o.dst nov,H) else none
  |some true=>if Bl P pol fn fr t H o=T.getD i .all then(match J5 P pol C fn fr t H o with
   |some (.normal,t1,H1)=>some (t1,H1)
   |_=>none) else none
def Qg3(P:Program)(pol:Pol)(C:Call)(fn fr:Nat)(ops:Array Oper)(T:List FP):List Nat->List V->Qg->Option (List V×Qg)
 |[],t,H=>some (t,H)
 |i::r,t,H=>match Qbf P pol C fn fr ops T i t H with
  |some (t1,H1)=>Qg3 P pol C fn fr ops T r t1 H1
  |none=>none
end
end Go.AM
end
