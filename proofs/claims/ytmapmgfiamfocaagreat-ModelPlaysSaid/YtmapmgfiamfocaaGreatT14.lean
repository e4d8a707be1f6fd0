/- This file holds in one the texts An45, An46, An47, An51, An38, An39, NM, NS; each says at its head what it proves. -/
import Derived.Test.YtmapmgfiamfocaaGreatT12
import Derived.Test.YtmapmgfiamfocaaGreatT13
import Derived.Sort.KeysCollected
import Derived.Laws.AppendOwn
import Derived.Lib.SlKeysI
set_option linter.unusedSimpArgs false
set_option linter.unusedVariables false
section
namespace Go.AM
def lk(f s:Nat):List (Nat×Nat×O)->Option O->Option O
 |[],d=>d
 |w::l,d=>if f=w.1/\s=w.2.1 then some w.2.2 else lk f s l d
structure Ch(H H' :Qg)(l:List (Nat×Nat×O)):Prop where
 len:H.length<=H'.length
 get:∀f s,f<H.length->Qd H' f s=lk f s l (Qd H f s)
theorem Ch.refl(H:Qg):Ch H H []:=⟨Ze8 _,fun _ _ _=>rfl⟩
theorem Ch.other{H H' :Qg}{l:List (Nat×Nat×O)}(a:Ch H H' l){f s:Nat}{o:Option O}(h:Qd H f s=o)(hf:f<H.length)(hn:∀w∈l,¬(f=w.1/\s=w.2.1)):Qd H' f s=o:=by
 rw[a.get f s hf,<-h];clear a h
 induction l with
 |nil=>rfl
 |cons w l ih=>simp only[lk];rw[if_neg (hn w (by simp))];exact ih fun w hw=>hn w (Zfj _ hw)
theorem Ya{H:Qg}{f s f' s' :Nat}{xs:List V}{es:List (V×V)}{bs:List Nat}{clk:Nat}(h:Qd H f s=some (.cells xs))(h' :Qd H f' s' =some (.map es bs clk)):¬(f=f' /\s=s'):=by rintro⟨rfl,rfl⟩;rw[h] at h';cases h'
theorem B7{H:Qg}{f s f' s' :Nat}{xs:List V}{es:List (V×V)}{bs:List Nat}{clk:Nat}(h:Qd H f s=some (.cells xs))(h' :Qd H f' s' =some (.map es bs clk)):¬(f' =f/\s' =s):=by rintro⟨rfl,rfl⟩;rw[h] at h';cases h'
section
variable {P : Program} {g : Get}
theorem Q5f{t e:TypeId}{k q:Nat}(hu:P.underlying t=some (.array k e))(hs:sz P e=some q){kk:IntKind}{f s o:Nat}{i:Int}:Zs P t (.ptr f s o) (.int kk i)=if 0<=i/\i<k then some (.ptr f s (o+i.toNat*q)) else none:=by simp only[Zs,hu,hs]
theorem Qpp{t kt e:TypeId}{kd:TypeDesc}(hu:P.underlying t=some (.map kt e))(hk:P.underlying kt=some kd){f s:Nat}{es:List (V×V)}{bs:List Nat}{clk:Nat}(hg:g f s=some (.map es bs clk))
 {k x:V}(hp:Yo kd k=true)(hf:findKey k es 0=some none):updateV P g t (.map f s) k x=some (.val .bad (some (f,s,.map (es++[(k,x)]) (bs++[clk]) (clk+1)))):=by
 simp only[updateV,hu,hk,hp,if_true,hg,hf]
end
theorem Qkt.ch{H K K' :Qg}{n:Nat}{v:V}{l:List (Nat×Nat×O)}(F:Qkt H n K)(hn:n=H.length)(hl:K'.length=K.length)(hg:∀f s,f<n->Qd K' f s=lk f s l (Qd K f s)):Ch H (Yb n v K') l:=by subst hn;have:=F.len;refine⟨Qbc (by omega),fun f s h=>?_⟩;rw[Xm h,hg f s h,F.low f s h]
theorem Qkt.ch' {H K K' :Qg}{n:Nat}{v:V}{l:List (Nat×Nat×O)}(F:Qkt H n K)(hn:n=H.length)(hl:K.length<=K'.length)(hg:∀f s,f<n->Qd K' f s=lk f s l (Qd K f s)):Ch H (Yb n v K') l:=by subst hn;have:=F.len;refine⟨Qbc (by omega),fun f s h=>?_⟩;rw[Xm h,hg f s h,F.low f s h]
structure At(H:Qg)(n:Nat)(K:Qg)(f s:Nat)(o:O):Prop where
 lt:f<n
 ltK:f<K.length
 ne:¬f=n
 get:Qd K f s=some o
theorem Qkt.at_{H K:Qg}{n f s:Nat}{o:O}(F:Qkt H n K)(hn:n=H.length)(h:Qd H f s=some o):At H n K f s o:=by have h1:=Q9 h;have h2:=F.len;exact⟨by omega,by omega,by omega,(F.low f s (by omega)).trans h⟩
theorem Q1{P:Program}{F:Func}{t:List V}{H:Qg}{a:Nat}{T:TypeId}{f s o:Nat}{xs:List V}{v:V}(hF:F.results= #[.cell a T])(ht:t.getD a .bad= .ptr f s o)(hx:Qd H f s=some (.cells xs))(hr:Zf P T xs o=some v):Qil P F t H=some v:=by simp only[Qil,hF,Qys,Qlq,ht,hx,hr]
theorem Ch.lt{K H1:Qg}{w:List (Nat×Nat×O)}{f:Nat}(c:Ch K H1 w)(h:f<K.length):f<H1.length:=Zfa h c.len
theorem lk_low{f s:Nat}{w:List (Nat×Nat×O)}{d:Option O}(h:∀x∈w,x.1<f):lk f s w d=d:=by
 induction w with
 |nil=>rfl
 |cons x w ih=>
  simp only[lk];rw[if_neg (fun e=>by have:=h x (by simp);omega)];exact ih fun y hy=>h y (Zfj _ hy)
theorem Ch.own{K H1:Qg}{w:List (Nat×Nat×O)}{f s:Nat}(c:Ch K H1 w)(h:f<K.length)(hw:∀x∈w,x.1<f):Qd H1 f s=Qd K f s:=by rw[c.get f s h,lk_low hw]
section
variable {P : Program} {pol : Pol} {C : Call} {L : Yu -> Qas} {fn fr : Nat} {t : List V} {H : Qg} {d : Option Nat} {k k' : List It} {Q : Ex -> List V -> Qg -> Prop}
theorem W.callT{f:FuncId}{args:List V}{R:V->Qg->Prop}(h:CR P pol f args H R)(hp:pol.prim f=none)(hq:pol.pure fn f=false)(ht:pol.thin fn f=false)(hl:pol.lift fn f=false)(hk:pol.look fn f=false)
 (h2:∀v H',R v H' ->W (U P pol C L fn fr k .normal (Z5 t d v) H') Q)(hz:pol.peek fn f=false:=by rfl)(hw:pol.side fn f=none:=by rfl)(hal:pol.alone fn d=false:=by rfl):W (UCT P pol C L fn fr (Zn pol (Zx P pol) fn fr d f args H) d k t) Q:=by
 obtain⟨r,H',h3,v,rfl,h4⟩:=h;rw[Qq9 hp hq ht h3 hl hk hz hw hal];exact h2 v H' h4
theorem W.pcallT{f:FuncId}{args args' :List V}{R:V->Prop}(h:Fz P pol f args' R)(hp:pol.prim f=none)(hq:pol.pure fn f=true)(ha:frzL (frz (fun _ _=>none) depth) args=some args')
 (h2:∀v,R v->W (U P pol C L fn fr k .normal (Z5 t d v) H) Q):W (UCT P pol C L fn fr (Zn pol (Zx P pol) fn fr d f args H) d k t) Q:=by
 obtain⟨v,h3,h4⟩:=h.op' hp ha;rw[h4 fn fr d H hq];exact h2 v h3
def Qum(P:Program)(pol:Pol)(f:FuncId)(args:List V)(R:V->Prop):Prop:=∃v H' v',Zx P pol f args []=some (.ret v,H')/\frzN (Qd H') depth v=some v' /\R v'
theorem Qum.of_cr{f:FuncId}{args:List V}{R:V->Prop}(h:CR P pol f args [] fun v H' =>∃v',frzN (Qd H') depth v=some v' /\R v'):Qum P pol f args R:=by obtain⟨r,H',h1,v,rfl,v',h2,h3⟩:=h;exact⟨v,H',v',h1,h2,h3⟩
theorem Fz.of_cr{f:FuncId}{args:List V}{R:V->Prop}(h:CR P pol f args [] fun v H' =>∃v',frz (Qd H') depth v=some v' /\R v'):Fz P pol f args R:=by obtain⟨r,H',h1,v,rfl,v',h2,h3⟩:=h;exact⟨v,H',v',h1,h2,h3⟩
theorem Qkk{f:FuncId}{args args' :List V}{R:V->Prop}(h:Qum P pol f args' R)(hp:pol.prim f=none)(hq:pol.pure fn f=false)(hl:pol.lift fn f=false)(hk:pol.look fn f=true)(ha:frzL (frz (Qd H) depth) args=some args')(hal:pol.alone fn d=false:=by rfl):
 ∃v,R v/\Zn pol (Zx P pol) fn fr d f args H=some (.ret v,H):=by
 obtain⟨v,H',v',h1,h2,h3⟩:=h;refine⟨v',h3,?_⟩;simp only[Zn,hp,Pol.pureA_f hq hal,hl,hk,Ze7,if_false,if_true,ha,h1,h2,Ze4]
theorem W.lcall{f:FuncId}{args args' :List V}{R:V->Prop}(h:Qum P pol f args' R)(hp:pol.prim f=none)(hq:pol.pure fn f=false)(hl:pol.lift fn f=false)(hk:pol.look fn f=true)(ha:frzL (frz (Qd H) depth) args=some args')
 (h2:∀v,R v->W (U P pol C L fn fr k .normal (Z5 t d v) H) Q)(hal:pol.alone fn d=false:=by rfl):W (UC P pol C L fn fr (Zn pol (Zx P pol) fn fr d f args H) d k k' t) Q:=by
 obtain⟨v,h3,h4⟩:=Qkk (d:=d) h hp hq hl hk ha hal;rw[h4];exact h2 v h3
theorem W.lcallT{f:FuncId}{args args' :List V}{R:V->Prop}(h:Qum P pol f args' R)(hp:pol.prim f=none)(hq:pol.pure fn f=false)(hl:pol.lift fn f=false)(hk:pol.look fn f=true)(ha:frzL (frz (Qd H) depth) args=some args')
 (h2:∀v,R v->W (U P pol C L fn fr k .normal (Z5 t d v) H) Q)(hal:pol.alone fn d=false:=by rfl):W (UCT P pol C L fn fr (Zn pol (Zx P pol) fn fr d f args H) d k t) Q:=by
 obtain⟨v,h3,h4⟩:=Qkk (d:=d) h hp hq hl hk ha hal;rw[h4];exact h2 v h3
end
theorem Qpz(g:Get)(m:Nat)(b:List UInt8):frzL (frzN g (m+1)) (Qp b)=some (Qp b):=by
 induction b with
 |nil=>rfl
 |cons x b ih=>simp only[Qp,Zfn] at ih⊢;simp only[frzL,ih];rfl
section
variable {P : Program} {pol : Pol}
def EndS(P:Program)(pol:Pol)(f:FuncId)(F:Func)(b:Nat)(R:V->Qg->Prop)(e:Ex)(t:List V)(H:Qg):Prop:=match e with
 | .normal| .ret=>∃H2,Bc (pol.settle f) t H=some H2/\Z2 P F b R .ret t H2
 |_=>False
theorem cr_ofS{f:FuncId}{F:Func}{c:Code}{args:List V}{H:Qg}{R:V->Qg->Prop}(hF:P.funcs[f]?=some F)(hc:F.body=some c)
 (h:∀n K,n=H.length->Qkt H n K->W (U P pol (Zx P pol) Yc f n [.code c] .normal (args++List.replicate (F.ntmps-args.length) .bad) K) (EndS P pol f F n R)):CR P pol f args H R:=by
 refine cw_ofS hF hc ((h H.length (H++[[]]) rfl ⟨by simp,by simp,fun s=>?_,fun f s hf=>?_⟩).mono fun e t H' h=>?_)
 . rw[Ql1];rfl
 . exact Qnx H _ hf s
 . cases e with
   |normal=>obtain⟨H2,h1,h2⟩:=h;exact⟨H2,h1,Z2.to h2⟩
   |ret=>obtain⟨H2,h1,h2⟩:=h;exact⟨H2,h1,Z2.to h2⟩
   |exit i=>exact h.elim
   |panic v=>exact h.elim
theorem Qx0{t:List V}{H:Qg}{k f s o f1 s1 o1 len esz:Nat}{cap:Option Nat}{xs ys:List V}(ht:t.getD k .bad= .ptr f s o)(hx:Qd H f s=some (.cells xs))(hi:xs[o]?=some (.mS f1 s1 o1 len cap esz))
 (hy:Qd H f1 s1=some (.cells ys))(hl:o1+len*esz<=ys.length)(hp:Zt ys=true)(hn:¬(f=f1/\s=s1)):
 Qfx t H k=some (Qs (Qs H f1 s1 .dead) f s (.cells (xs.set o (.iS ((ys.drop o1).take (len*esz)) len (cap==some len))))):=by
 simp only[Qfx,ht,hx,hi,hy];rw[if_pos ⟨hl,hp,hn⟩]
end
section
variable {P : Program} {u e e2 : TypeId} {x y : Operand}
theorem Q21(hu:P.underlying u=some (.slice e)):X7 P .eql u x y .nS .nS=some (.bool true):=by simp[X7,Qjr,hu,J4,Qmq,V.isNil]
theorem Qs3(hu:P.underlying u=some (.slice e)){cs:List V}{n:Nat}{f:Bool}:X7 P .eql u x y (.iS cs n f) .nS=some (.bool false):=by simp[X7,Qjr,hu,J4,Qmq,V.isNil]
theorem Qf7(hu:P.underlying u=some (.pointer e)):X7 P .eql u x y .nP .nP=some (.bool true):=by simp[X7,Qjr,hu,J4,Qmq,V.isNil]
theorem Qdl(hu:P.underlying u=some (.pointer e)){f s o:Nat}:X7 P .eql u x y (.ptr f s o) .nP=some (.bool false):=by simp[X7,Qjr,hu,J4,Qmq,V.isNil]
theorem bn_mp1(hu:P.underlying u=some (.map e e2)){f s:Nat}:X7 P .eql u x y (.map f s) .nM=some (.bool false):=by simp[X7,Qjr,hu,J4,Qmq,V.isNil]
end
theorem Q48{g:Get}{f s o len m:Nat}{cap:Option Nat}{xs:List V}{l:List UInt8}(hg:g f s=some (.cells xs))(hx:(xs.drop o).take len=Qp l)(hl:o+len<=xs.length):
 frzN g (m+2) (.mS f s o len cap 1)=some (.iS (Qp l) len (cap==some len)):=by
 show(match g f s with
  |some (.cells xs)=>if o+len*1<=xs.length then(frzL (frzN g (m+1)) ((xs.drop o).take (len*1))).map fun cs=>V.iS cs len (cap==some len) else none
  |_=>none)=_
 rw[hg];simp only[Zgd,hl,if_true,hx,Qpz,Ze4]
section
variable {P : Program} {t t2 e e2 : TypeId} {n by_ m : Nat} {z cs : List V} {x : V} {g : Get} {mt : Nat -> Bool} {fr : Nat} {dst : Option Nat}
theorem Q4y(hu:P.underlying t=some (.slice e))(hs:sz P e=some n)(hb:byt P e=some by_)(hz:zeroCells P e=some z)(hzl:z.length=n)(ht:P.underlying t2=some (.slice e2))
 (hx:Z3 g n x=some (cs,m))(hm:0<m)(hr:Qa1 (0+m) by_=true){f s:Nat}(hg:g f s=some (.cells [])):Yi P mt fr g dst t t2 (.mS f s 0 0 (some 0) n) x=grown mt g fr dst ([]++cs) ([]++cs) (0+m) n:=by
 obtain⟨m,rfl⟩:∃k,m=k+1:=⟨m-1,by omega⟩;simp only[Yi,hu,hs,hb,hz,hzl,if_true,Qcj,ht,hx,appendTo,hr,hg,and_self];rw[if_neg (by omega)];simp
end
def Qwm(bef:Array Nat):List (Nat×Nat)->List (Nat×Nat)
 |[]=>[]
 |(a,i)::r=>(r.filterMap fun(b,j)=>if(bef.getD j 0).testBit i||(Nat.ble a 1&&Nat.ble b 1) then none else some (i,j))++Qwm bef r
theorem Qkd(bef:Array Nat):∀T:List (FP×Nat),(∀p∈Qwm bef (T.map fun x=>(x.1.kind,x.2)),∀a b,(a,p.1)∈T->(b,p.2)∈T->a.indep b=true)->okT bef T=true
 |[],_=>rfl
 |(a,i)::r,h=>by
  simp only[okT,Zfr,Zf1];refine⟨fun x hx=>?_,Qkd bef r fun p hp a' b' ha hb=>h p ?_ a' b' (Zfj _ ha) (Zfj _ hb)⟩
  . obtain⟨b,j⟩:=x;simp only[Zgj];by_cases c:((bef.getD j 0).testBit i||(Nat.ble a.kind 1&&Nat.ble b.kind 1))=true
    . simp only[Zgj,Zfr] at c;exact c.imp id fun⟨p,q⟩=>Qov _ _ p q
    . right;refine h (i,j) ?_ a b (by simp) (Zfj _ hx);simp only[Zfn,Qwm,Zfw,List.mem_filterMap];left;refine⟨(b.kind,j),Zfm.2 ⟨(b,j),hx,rfl⟩,?_⟩;simp only;rw[if_neg c]
  . simp only[Zfn,Qwm,Zfw];exact .inr hp
theorem Qzm{T:List FP}{a:FP}{i:Nat}(h:(a,i)∈loud T):T.getD i .quiet=a:=by unfold loud at h;have h1:=(Zgn.1 h).1;have h2:=List.mem_zipIdx_iff_getElem?.1 h1;simp only at h2;rw[List.getD_eq_getElem?_getD,h2];rfl
def Qgd(T:List FP):List (Nat×Nat)->Prop
 |[]=>True
 |p::r=>(T.getD p.1 .quiet).indep (T.getD p.2 .quiet)=true/\Qgd T r
theorem Qmb{T:List FP}:∀{L:List (Nat×Nat)},Qgd T L->∀p∈L,(T.getD p.1 .quiet).indep (T.getD p.2 .quiet)=true
 |[],_,p,h=>by cases h
 |q::r,hq,p,h=>by
  rcases Zfi.1 h with rfl|h
  . exact hq.1
  . exact Qmb hq.2 p h
theorem W.opsC{P:Program}{pol:Pol}{C:Call}{L:Yu->Qas}{fn fr:Nat}{t:List V}{H:Qg}{a:Array Oper}{T:List FP}{k:List It}{Q:Ex->List V->Qg->Prop}(M:List (Nat×Nat))
 (h:Qwm (Region.before a) ((loud T.reverse).map fun x=>(x.1.kind,x.2))=M)(hp:Qgd T.reverse M)(h2:W (U P pol C L fn fr k .normal t H) Q):W (U P pol C L fn fr (.opsT a [] T::k) .normal t H) Q:=by
 refine W.opsT (Qkd _ _ fun p hm a b ha hb=>?_) h2;rw[h] at hm;rw[<-Qzm ha,<-Qzm hb];exact Qmb hp p hm
theorem Qcg{r w r' w' :List (Nat×Nat)}(h1:∀x∈w,x∉r')(h2:∀x∈w,x∉w')(h3:∀x∈w',x∉r):FP.indep (.ids r w) (.ids r' w')=true:=by
 have m:∀a b:List (Nat×Nat),(∀x∈a,x∉b)->Qiz a b=false:=by intro a b h;unfold Qiz;rw[List.any_eq_false];intro x hx;simpa using h x hx
 simp only[FP.indep,m _ _ h1,m _ _ h2,m _ _ h3,Zgo,Zgp]
def Yj{α:Type}(seen:List Nat):List α->List Nat->List (α×Nat)
 |e::es,b::bs=>if seen.contains b then Yj seen es bs else(e,b)::Yj seen es bs
 |_,_=>[]
theorem Qe0{α:Type}(f:α->V×V)(seen:List Nat):∀(xs:List α) (bs:List Nat),Qc5 seen (xs.map f) bs=(Yj seen xs bs).map fun p=>(f p.1,p.2)
 |[],_=>rfl
 |_::_,[]=>rfl
 |x::xs,b::bs=>by
  simp only[Zfn,Qc5,Yj];split
  . exact Qe0 f seen xs bs
  . rw[Zfn,Qe0 f seen xs bs]
theorem Qbt{α:Type}{seen:List Nat}{p:α×Nat}:∀{xs:List α} {bs:List Nat},p∈Yj seen xs bs->p.1∈xs/\p.2∈bs/\p.2∉seen
 |[],_,h=>by simp[Yj] at h
 |_::_,[],h=>by simp[Yj] at h
 |x::xs,b::bs,h=>by
  simp only[Yj] at h;split at h
  . have:=Qbt h;exact⟨Zfj _ this.1,Zfj _ this.2.1,this.2.2⟩
  . rename_i hc;rcases Zfi.1 h with rfl|h
    . exact⟨by simp,by simp,by simpa using hc⟩
    . have:=Qbt h;exact⟨Zfj _ this.1,Zfj _ this.2.1,this.2.2⟩
theorem Qpa{α:Type}{seen:List Nat}{b:Nat}:∀{xs:List α} {bs:List Nat},b∉bs->Yj (seen++[b]) xs bs=Yj seen xs bs
 |[],_,_=>rfl
 |_::_,[],_=>rfl
 |x::xs,c::bs,h=>by
  have h1:c≠b:=fun e=>h (by simp[e]);have h2:b∉bs:=fun e=>h (Zfj _ e);simp only[Yj,Qpa (xs:=xs) h2];have:(seen++[b]).contains c=seen.contains c:=by simp[h1]
  rw[this]
theorem Qch{α:Type}{seen:List Nat}{p:α×Nat}:∀{xs:List α} {bs:List Nat},bs.Nodup->p∈Yj seen xs bs->(Yj seen xs bs).Perm (p::Yj (seen++[p.2]) xs bs)
 |[],_,_,h=>by simp[Yj] at h
 |_::_,[],_,h=>by simp[Yj] at h
 |x::xs,b::bs,hu,h=>by
  obtain⟨hb,hu⟩:=Zgq.1 hu;simp only[Yj] at h⊢;by_cases hc:seen.contains b=true
  . rw[if_pos hc] at h⊢;have:(seen++[p.2]).contains b=true:=by simp at hc⊢;exact .inl hc
    rw[if_pos this];exact Qch hu h
  . rw[if_neg hc] at h⊢;rcases Zfi.1 h with rfl|h
    . have:(seen++[b]).contains b=true:=by simp
      simp only[this,if_true];rw[Qpa hb]
    . have hm:=Qbt h;have hne:b≠p.2:=fun e=>hb (e▸hm.2.1);have:¬(seen++[p.2]).contains b=true:=by simp at hc⊢;exact⟨hc,hne⟩
      rw[if_neg this];exact((Qch hu h).cons _).trans (List.Perm.swap _ _ _)
theorem Qib{α:Type}:∀(xs:List α) (bs:List Nat),xs.length=bs.length->(Yj [] xs bs).map (·.1)=xs
 |[],_,_=>rfl
 |_::_,[],h=>by simp at h
 |x::xs,b::bs,h=>by
  simp only[Yj,List.contains_nil,Ze7,if_false,Zfn];rw[Qib xs bs (by simpa using h)]
theorem Qhm{α:Type}(f:α->V×V){seen:List Nat}{p:α×Nat}:∀{xs:List α} {bs:List Nat},bs.Nodup->p∈Yj seen xs bs->Qb9 p.2 (xs.map f) bs=some (f p.1)
 |[],_,_,h=>by simp[Yj] at h
 |_::_,[],_,h=>by simp[Yj] at h
 |x::xs,b::bs,hu,h=>by
  obtain⟨hb,hu⟩:=Zgq.1 hu;simp only[Yj] at h;simp only[Zfn,Qb9];by_cases hc:seen.contains b=true
  . rw[if_pos hc] at h;have hm:=Qbt h;rw[if_neg (fun e:b=p.2=>hb (by rw[e];exact hm.2.1))];exact Qhm f hu h
  . rw[if_neg hc] at h;rcases Zfi.1 h with rfl|h
    . simp
    . have hm:=Qbt h;rw[if_neg (fun e:b=p.2=>hb (by rw[e];exact hm.2.1))];exact Qhm f hu h
section
variable {P : Program} {pol : Pol} {L : Yu -> Qas} {fn fr : Nat} {t : List V} {H : Qg} {k : List It} {Q : Ex -> List V -> Qg -> Prop}
end
open Go.RowKit Go.Sort Go.Maps Go.Proofs
def Qhy:List (V×V)->Option (List (List UInt8))
 |[]=>some []
 |(k,_)::r=>match k,Qhy r with
  | .str s,some l=>some (s::l)
  |_,_=>none
def Qx5(x:List UInt8):List (List UInt8)->List (List UInt8)
 |[]=>[x]
 |y::l=>if leB x y then x::y::l else y::Qx5 x l
def sortB:List (List UInt8)->List (List UInt8)
 |[]=>[]
 |x::l=>Qx5 x (sortB l)
theorem Qlm(x:List UInt8):∀l,(Qx5 x l).Perm (x::l)
 |[]=> .refl _
 |y::l=>by
  unfold Qx5;split
  . exact .refl _
  . exact((Qlm x l).cons y).trans (List.Perm.swap x y l)
theorem sortB_perm:∀l,(sortB l).Perm l
 |[]=> .refl _
 |x::l=>(Qlm x _).trans ((sortB_perm l).cons x)
theorem Ql0{a b c:List UInt8}(h1:leB a b=true)(h2:leB b c=true):leB a c=true:=by simp only[leB,decide_eq_true_eq] at*;exact List.le_trans h1 h2
theorem Qrp{a b:List UInt8}(h:leB a b=false):leB b a=true:=by
 simp only[leB,decide_eq_false_iff_not,decide_eq_true_eq] at*;rcases List.le_total a b with h1|h1
 . exact absurd h1 h
 . exact h1
theorem Qm9(x:List UInt8):∀l,l.Pairwise (fun a b=>leB a b=true)->(Qx5 x l).Pairwise (fun a b=>leB a b=true)
 |[],_=>by simp[Qx5]
 |y::l,h=>by
  obtain⟨h1,h2⟩:=Zgr.1 h;unfold Qx5;split
  . rename_i hx;refine Zgr.2 ⟨fun z hz=>?_,h⟩;rcases Zfi.1 hz with rfl|hz
    . exact hx
    . exact Ql0 hx (h1 z hz)
  . rename_i hx;refine Zgr.2 ⟨fun z hz=>?_,Qm9 x l h2⟩;rcases Zfi.1 ((Qlm x l).mem_iff.1 hz) with rfl|hz
    . exact Qrp (by simpa using hx)
    . exact h1 z hz
theorem Qgn:∀l,(sortB l).Pairwise (fun a b=>leB a b=true)
 |[]=> .nil
 |x::l=>Qm9 x _ (Qgn l)
theorem Qne{l l' :List (List UInt8)}(h:l.Perm l'):l.mergeSort leB=sortB l' :=by
 have tr:∀a b c:List UInt8,leB a b=true->leB b c=true->leB a c=true:=fun a b c h1 h2=>Ql0 h1 h2;have to:∀a b:List UInt8,(leB a b||leB b a)=true:=fun a b=>by
  cases hx:leB a b with
  |true=>rfl
  |false=>simpa using Qrp hx
 refine List.Perm.eq_of_pairwise (le:=fun a b=>leB a b=true) (fun a b _ _ h1 h2=>?_) (List.pairwise_mergeSort tr to l) (Qgn l') (((List.mergeSort_perm l leB).trans h).trans (sortB_perm l').symm);simp only[leB,decide_eq_true_eq] at h1 h2;exact List.le_antisymm h1 h2
def Qai(l:List V):V:=if l.isEmpty then .nS else .iS l l.length false
def Qav(k1:FuncId):Prim:=fun _ _ g as=>match as with
 |[.func (.func f) [] [.ptr fr s 0]]=>if f=k1 then(match g fr s with
  |some (.cells (.map fm sm::_))=>(match g fm sm with
   |some (.map es bs clk)=>(match Qhy es with
    |some ss=>if ss.Nodup/\bs.Nodup/\(∀b∈bs,b<clk)/\(∀x∈ss,x.length<=1048576)/\ss.length<=1048576 then some (Qai ((sortB ss).map .str),none) else none
    |none=>none)
   |_=>none)
  |_=>none) else none
 |_=>none
def Qq8(P:Program)(srt k1:FuncId)(T:TypeId):Prop:=
 ∀(Bm b:Nat) (w:World) (es:Array MapEntry) (clk:Nat),Bm<w.heap.size->w.cell? ⟨Bm,0,none⟩=some (.map (some b))->w.heap[b]?=some (.map es clk)->MapKept.Stamped es clk->
  (∀e∈es.toList,∃x:List UInt8,e.key=encStr x/\x.length<=1048576)->es.size<=1048576->
  Qay P srt #[.func (.func k1) #[] #[.pointer (some ⟨Bm,0,none⟩)]] w fun e w' =>∃(v:Value) (ss:List (List UInt8)),e= .returned v/\(ss.map encStr).Perm (es.toList.map (·.key))/\
   w'.ownsRow w.heap.size T 1 v ss.length ((ss.mergeSort leB).map encStr)/\(v= .slice none 0 0↔ss=[])/\Below w.heap.size w w'
section
variable {P : Program} {E : Env} {B : Nat} {F : Nat -> Nat -> Prop} {H : Qg}
theorem Sim.below(S:Sim B F H E){w' :World}(hb:Below E.w.heap.size E.w w'):Ext H.length B E {E with w:=w' }/\Sim B F H {E with w:=w' }:=by
 have X:Ext 0 E.w.heap.size (AM.bare E.tab E.w E.mod) (AM.bare E.tab w' E.mod):=by
  have old:∀b,b<E.w.heap.size->w'.heap[b]?=E.w.heap[b]?:=hb.block;refine⟨hb.size,fun b T n h=>?_,fun b i v _ h=>?_,fun _ _ _ _ h=>h,fun _ _ _ _ h=>(by cases h),fun _ _ _ _ _ _ h=>(by cases h),old,⟨hb.tape,hb.os,hb.output⟩,rfl,fun b h0=>(old b (Zfb.1 h0).1).trans h0⟩
  . exact(Kr (w:=E.w) (w' :=w') (old b (Qt4 h))).trans h
  . exact(K5 (old b (Qsg h)) i).trans h
 exact S.behind X
theorem Q06(l:List (List UInt8)):Qr E (l.map .str) (l.map encStr):=by
 induction l with
 |nil=>exact .nil
 |cons a l ih=>exact .cons (by simp[Rel,encStr]) ih
theorem Qor(l:List (List UInt8)):Zt (l.map .str)=true:=by
 induction l with
 |nil=>rfl
 |cons a l ih=>simp[Zt,V.pure,ih]
theorem Qin:∀{es:List (V×V)} {ss:List (List UInt8)} {ces:List MapEntry},Qhy es=some ss->Js E es ces->ces.map (·.key)=ss.map encStr
 |[],ss,ces,h,r=>by cases h;simp only[Js] at r;subst r;rfl
 |(k,x)::es,ss,ces,h,r=>by
  obtain⟨e,r',rfl,h1,h2,h3⟩:=r;simp only[Qhy] at h;split at h
  . rename_i s l hl;cases h;simp only[Rel] at h1;simp only[Zfn,Qin hl h3,h1]
  . cases h
theorem Qtv{a b:List (List UInt8)}(h:(a.map encStr).Perm (b.map encStr)):a.Perm b:=by
 have:∀l:List (List UInt8),(l.map encStr).map (fun v=>match v with|Value.string s=>s.data.toList|_=>[])=l:=by intro l;rw[Zfp];exact(Zgs (fun x _=>by simp)).trans (List.map_id l)
 have h2:=h.map (fun v=>match v with|Value.string s=>s.data.toList|_=>[]);rwa[this,this] at h2
theorem Qqy{srt k1:FuncId}{T:TypeId}(hK:Qq8 P srt k1 T)(S:Sim B F H E){fr:Nat}{dst:Option Nat}{args:List V}{cargs:List Value}{v:V}{x:Option (Nat×Nat×O)}
 (hr:Qr E args cargs)(h:Qav k1 fr dst (Qd H) args=some (v,x)):Qay P srt ⟨cargs⟩ E.w (Qbq B F H E (.ret v) (wr H x)):=by
 unfold Qav at h;split at h
 case h_2=>cases h
 rename_i f f1 s1;split at h
 case isFalse=>cases h
 rename_i hf;subst hf;split at h
 case h_2=>cases h
 rename_i fm sm rest hc;split at h
 case h_2=>cases h
 rename_i es bs clk hm;split at h
 case h_2=>cases h
 rename_i ss hss;split at h
 case isFalse=>cases h
 rename_i hchk;obtain⟨hnd,hbn,hbl,hlen,hcount⟩:=hchk;cases h;obtain⟨c,r,rfl,h1,h2⟩:=Qr.cons_iff.1 hr;rw[Qr.nil_iff] at h2;subst h2;simp only[Rel] at h1;obtain⟨fs,cs,rfl,hfs,hcs⟩:=h1;rw[Qr.nil_iff] at hfs;subst hfs;obtain⟨cp,r2,rfl,h3,h4⟩:=Qr.cons_iff.1 hcs;rw[Qr.nil_iff] at h4;subst h4;simp only[Rel] at h3;obtain⟨Bm,hBm,rfl⟩:=h3;obtain⟨b0,c0,T0,vs,rest0,g1,g2,g3,g4,g5,_,_,g8⟩:=S.lies hc;rw[hBm] at g1;cases g1;obtain⟨cm,vr,rfl,h5,_⟩:=Qr.cons_iff.1 g5;simp only[Rel] at h5;obtain⟨b,hb,rfl⟩:=h5;obtain⟨b',ces,k1',k2,k3,k4,k5⟩:=S.obj fm sm _ hm;rw[hb] at k1';cases k1';have hkeys:=Qin hss k4;have hcell:E.w.cell? ⟨Bm,0,none⟩=some (.map (some b)):=by have:=g8 0 (.map (some b)) rfl;simpa using this
 have hst:MapKept.Stamped ces clk:=by
  refine⟨fun x hx=>hbl x.born ?_,by rw[k5];exact hbn,?_⟩
  . rw[<-k5];exact Zfm.2 ⟨x,hx,rfl⟩
  . rw[hkeys];rw[List.Nodup,Zgt];exact hnd.imp fun hne he=>hne (encStr_inj he)
 have hsz:ces.size=ss.length:=by have:=congrArg List.length hkeys;simpa using this
 refine(hK Bm b E.w ces clk (Zfb.1 g3).1 hcell k3 hst ?_ (by omega)).mono ?_
 . intro e he;have:e.key∈ss.map encStr:=by rw[<-hkeys];exact Zfm.2 ⟨e,he,rfl⟩
   obtain⟨x,hx,hxe⟩:=Zfm.1 this;exact⟨x,hxe.symm,hlen x hx⟩
 . rintro e w' ⟨cv,ss',rfl,hp,hrow,hnil,hbelow⟩;obtain⟨X,S'⟩:=S.below hbelow;rw[hkeys] at hp;have hp' :=Qtv hp;have hsort:=Qne hp';refine⟨{E with w:=w' },rfl,⟨cv,rfl,?_⟩,S',X,Ze8 _⟩;rw[hsort] at hrow;obtain⟨hl,hrow⟩:=hrow;have hlen' :ss'.length=(sortB ss).length:=by simpa using hl.symm
   unfold Qai;rcases hrow with⟨rfl,h0⟩|⟨g,cap,cur,rfl,q1,q2,q3,q4,q5,q6⟩
   . have:sortB ss=[]:=Zf7 (by omega);rw[this];simp[Rel]
   . have hne:ss' ≠[]:=fun e=>by have:=hnil.2 e;cases this
     have hne2:((sortB ss).map V.str).isEmpty=false:=by
      cases hs:sortB ss with
      |nil=>rw[hs] at hlen';exact absurd (Zf7 hlen') hne
      |cons a l=>rfl
     rw[hne2];simp only[Ze7,if_false,Rel];refine⟨⟨g,0,none⟩,cap,(sortB ss).map encStr,?_,?_,(fun h=>by cases h),.inr ⟨rfl,fun i v hv=>?_⟩,Q06 _,Qor _⟩
     . simp[hlen']
     . simp only[Zgu];omega
     . rw[<-q6,Zgd,Zfh] at hv;split at hv
       . refine⟨?_,fun hm=>?_⟩
         . simp only[Zff,World.cell?,q2];simpa using hv
         . have:=S.modsz g (0+i) hm;omega
       . cases hv
def Qlg:Value->Option (DataW Unit×List MemPlace):=fun _=>some (.nil,[])
def Qbj(P:Program)(k:TypeId)(es:Array MapEntry):DataW Unit:= .map ((es.toList.map (WideElems.rg P k Qlg)).foldr DataW.insert [])
theorem Q5p{k:TypeId}(hk:P.underlying k=some .string){e:MapEntry}{x:List UInt8}(he:e.key=encStr x)(hx:x.length<=1048576):WideElems.rd P k Qlg e=some (.string x,.nil):=by have:x.length<=maxLen:=Ze9 hx (by decide);simp[WideElems.rd,keyOf,hk,mapKey,he,Qlg,ByteArray.size,this]
theorem Qwd{k:TypeId}(hk:P.underlying k=some .string){w:World}{b clk:Nat}{es:Array MapEntry}(hb:w.heap[b]?=some (.map es clk))(hst:MapKept.Stamped es clk)
 (hkeys:∀e∈es.toList,∃x:List UInt8,e.key=encStr x/\x.length<=1048576)(hsz:es.size<=1048576):w.ownsMap P k Qlg b 1048576 (Qbj P k es):=
 ⟨es,clk,hb,⟨Ze9 hsz (by decide),hst,fun x hx=>by obtain⟨l,h1,h2⟩:=hkeys x hx;exact⟨_,Q5p hk h1 h2⟩⟩,hsz,rfl⟩
theorem Qpt{k:TypeId}{es:Array MapEntry}:Maps.size (Qbj P k es)=es.size:=by simp[Qbj,Maps.size,((WideShapes.sorted_perm _).length_eq)]
theorem Qqp{k:TypeId}(hk:P.underlying k=some .string){es:Array MapEntry}(hkeys:∀e∈es.toList,∃x:List UInt8,e.key=encStr x/\x.length<=1048576):
 ((strKeys (Qbj P k es)).map encStr).Perm (es.toList.map (·.key)):=by
 have h1:((es.toList.map (WideElems.rg P k Qlg)).foldr DataW.insert []).Perm (es.toList.map (WideElems.rg P k Qlg)):=WideShapes.sorted_perm _;have h2:=(h1.map fun p=>strOf p.1).map encStr;refine h2.trans ?_;rw[Zfp,Zfp];have:es.toList.map (encStr∘(fun p:Lit×DataW Unit=>strOf p.1)∘WideElems.rg P k Qlg)=es.toList.map (·.key):=by refine Zgs fun e he=>?_;obtain⟨x,q1,q2⟩:=hkeys e he;simp only[Function.comp,WideElems.rg,Q5p hk q1 q2,Zgi,strOf,q1]
 exact this▸ .refl _
end
end Go.AM
namespace Go.AM
open Go.RowKit Go.Sort Go.Maps Go.Proofs
def Qhw:List (V×V)->Option (List Int)
 |[]=>some []
 |(k,_)::r=>match k,Qhw r with
  | .int .i64 s,some l=>some (s::l)
  |_,_=>none
abbrev leZ:Int->Int->Bool:=fun x y=>decide (x<=y)
def Qx9(x:Int):List Int->List Int
 |[]=>[x]
 |y::l=>if leZ x y then x::y::l else y::Qx9 x l
def sortZ:List Int->List Int
 |[]=>[]
 |x::l=>Qx9 x (sortZ l)
theorem Qlu(x:Int):∀l,(Qx9 x l).Perm (x::l)
 |[]=> .refl _
 |y::l=>by
  unfold Qx9;split
  . exact .refl _
  . exact((Qlu x l).cons y).trans (List.Perm.swap x y l)
theorem sortZ_perm:∀l,(sortZ l).Perm l
 |[]=> .refl _
 |x::l=>(Qlu x _).trans ((sortZ_perm l).cons x)
theorem Qq7{a b c:Int}(h1:leZ a b=true)(h2:leZ b c=true):leZ a c=true:=by simp only[leZ,decide_eq_true_eq] at*;omega
theorem Qq6{a b:Int}(h:leZ a b=false):leZ b a=true:=by simp only[leZ,decide_eq_false_iff_not,decide_eq_true_eq] at*;omega
theorem Qmu(x:Int):∀l,l.Pairwise (fun a b=>leZ a b=true)->(Qx9 x l).Pairwise (fun a b=>leZ a b=true)
 |[],_=>by simp[Qx9]
 |y::l,h=>by
  obtain⟨h1,h2⟩:=Zgr.1 h;unfold Qx9;split
  . rename_i hx;refine Zgr.2 ⟨fun z hz=>?_,h⟩;rcases Zfi.1 hz with rfl|hz
    . exact hx
    . exact Qq7 hx (h1 z hz)
  . rename_i hx;refine Zgr.2 ⟨fun z hz=>?_,Qmu x l h2⟩;rcases Zfi.1 ((Qlu x l).mem_iff.1 hz) with rfl|hz
    . exact Qq6 (by simpa using hx)
    . exact h1 z hz
theorem sortZ_sorted:∀l,(sortZ l).Pairwise (fun a b=>leZ a b=true)
 |[]=> .nil
 |x::l=>Qmu x _ (sortZ_sorted l)
theorem Qnd{l l' :List Int}(h:l.Perm l'):l.mergeSort leZ=sortZ l' :=by
 have tr:∀a b c:Int,leZ a b=true->leZ b c=true->leZ a c=true:=fun a b c h1 h2=>Qq7 h1 h2;have to:∀a b:Int,(leZ a b||leZ b a)=true:=fun a b=>by
  cases hx:leZ a b with
  |true=>rfl
  |false=>simpa using Qq6 hx
 refine List.Perm.eq_of_pairwise (le:=fun a b=>leZ a b=true) (fun a b _ _ h1 h2=>?_) (List.pairwise_mergeSort tr to l) (sortZ_sorted l') (((List.mergeSort_perm l leZ).trans h).trans (sortZ_perm l').symm);simp only[leZ,decide_eq_true_eq] at h1 h2;omega
def Qaq(k1:FuncId):Prim:=fun _ _ g as=>match as with
 |[.func (.func f) [] [.ptr fr s 0]]=>if f=k1 then(match g fr s with
  |some (.cells (.map fm sm::_))=>(match g fm sm with
   |some (.map es bs clk)=>(match Qhw es with
    |some ss=>if ss.Nodup/\bs.Nodup/\(∀b∈bs,b<clk)/\(∀x∈ss,-9223372036854775808<=x/\x<9223372036854775808)/\ss.length<=1048576 then some (Qai ((sortZ ss).map (.int .i64)),none) else none
    |none=>none)
   |_=>none)
  |_=>none) else none
 |_=>none
def Qpv(P:Program)(srt k1:FuncId)(T:TypeId):Prop:=
 ∀(Bm b:Nat) (w:World) (es:Array MapEntry) (clk:Nat),Bm<w.heap.size->w.cell? ⟨Bm,0,none⟩=some (.map (some b))->w.heap[b]?=some (.map es clk)->MapKept.Stamped es clk->
  (∀e∈es.toList,∃x:Int,e.key=encZ x/\ -9223372036854775808<=x/\x<9223372036854775808)->es.size<=1048576->
  Qay P srt #[.func (.func k1) #[] #[.pointer (some ⟨Bm,0,none⟩)]] w fun e w' =>∃(v:Value) (ss:List Int),e= .returned v/\(ss.map encZ).Perm (es.toList.map (·.key))/\
   w'.ownsRow w.heap.size T 1 v ss.length ((ss.mergeSort leZ).map encZ)/\(v= .slice none 0 0↔ss=[])/\Below w.heap.size w w'
section
variable {P : Program} {E : Env} {B : Nat} {F : Nat -> Nat -> Prop} {H : Qg}
theorem Q18(l:List Int):Qr E (l.map (.int .i64)) (l.map encZ):=by
 induction l with
 |nil=>exact .nil
 |cons a l ih=>exact .cons (by simp[Rel,encZ]) ih
theorem Qpn(l:List Int):Zt (l.map (.int .i64))=true:=by
 induction l with
 |nil=>rfl
 |cons a l ih=>simp[Zt,V.pure,ih]
theorem Qiy:∀{es:List (V×V)} {ss:List Int} {ces:List MapEntry},Qhw es=some ss->Js E es ces->ces.map (·.key)=ss.map encZ
 |[],ss,ces,h,r=>by cases h;simp only[Js] at r;subst r;rfl
 |(k,x)::es,ss,ces,h,r=>by
  obtain⟨e,r',rfl,h1,h2,h3⟩:=r;simp only[Qhw] at h;split at h
  . rename_i s l hl;cases h;simp only[Rel] at h1;simp only[Zfn,Qiy hl h3,h1]
  . cases h
theorem Qz4{a b:List Int}(h:(a.map encZ).Perm (b.map encZ)):a.Perm b:=by
 have:∀l:List Int,(l.map encZ).map (fun v=>match v with|Value.int _ n=>n|_=>(0:Int))=l:=by intro l;rw[Zfp];exact(Zgs (fun x _=>rfl)).trans (List.map_id l)
 have h2:=h.map (fun v=>match v with|Value.int _ n=>n|_=>0);rwa[this,this] at h2
theorem Qqr{srt k1:FuncId}{T:TypeId}(hK:Qpv P srt k1 T)(S:Sim B F H E){fr:Nat}{dst:Option Nat}{args:List V}{cargs:List Value}{v:V}{x:Option (Nat×Nat×O)}
 (hr:Qr E args cargs)(h:Qaq k1 fr dst (Qd H) args=some (v,x)):Qay P srt ⟨cargs⟩ E.w (Qbq B F H E (.ret v) (wr H x)):=by
 unfold Qaq at h;split at h
 case h_2=>cases h
 rename_i f f1 s1;split at h
 case isFalse=>cases h
 rename_i hf;subst hf;split at h
 case h_2=>cases h
 rename_i fm sm rest hc;split at h
 case h_2=>cases h
 rename_i es bs clk hm;split at h
 case h_2=>cases h
 rename_i ss hss;split at h
 case isFalse=>cases h
 rename_i hchk;obtain⟨hnd,hbn,hbl,hlen,hcount⟩:=hchk;cases h;obtain⟨c,r,rfl,h1,h2⟩:=Qr.cons_iff.1 hr;rw[Qr.nil_iff] at h2;subst h2;simp only[Rel] at h1;obtain⟨fs,cs,rfl,hfs,hcs⟩:=h1;rw[Qr.nil_iff] at hfs;subst hfs;obtain⟨cp,r2,rfl,h3,h4⟩:=Qr.cons_iff.1 hcs;rw[Qr.nil_iff] at h4;subst h4;simp only[Rel] at h3;obtain⟨Bm,hBm,rfl⟩:=h3;obtain⟨b0,c0,T0,vs,rest0,g1,g2,g3,g4,g5,_,_,g8⟩:=S.lies hc;rw[hBm] at g1;cases g1;obtain⟨cm,vr,rfl,h5,_⟩:=Qr.cons_iff.1 g5;simp only[Rel] at h5;obtain⟨b,hb,rfl⟩:=h5;obtain⟨b',ces,k1',k2,k3,k4,k5⟩:=S.obj fm sm _ hm;rw[hb] at k1';cases k1';have hkeys:=Qiy hss k4;have hcell:E.w.cell? ⟨Bm,0,none⟩=some (.map (some b)):=by have:=g8 0 (.map (some b)) rfl;simpa using this
 have hst:MapKept.Stamped ces clk:=by
  refine⟨fun x hx=>hbl x.born ?_,by rw[k5];exact hbn,?_⟩
  . rw[<-k5];exact Zfm.2 ⟨x,hx,rfl⟩
  . rw[hkeys];rw[List.Nodup,Zgt];exact hnd.imp fun hne he=>hne (by simpa [encZ] using he)
 have hsz:ces.size=ss.length:=by have:=congrArg List.length hkeys;simpa using this
 refine(hK Bm b E.w ces clk (Zfb.1 g3).1 hcell k3 hst ?_ (by omega)).mono ?_
 . intro e he;have:e.key∈ss.map encZ:=by rw[<-hkeys];exact Zfm.2 ⟨e,he,rfl⟩
   obtain⟨x,hx,hxe⟩:=Zfm.1 this;exact⟨x,hxe.symm,hlen x hx⟩
 . rintro e w' ⟨cv,ss',rfl,hp,hrow,hnil,hbelow⟩;obtain⟨X,S'⟩:=S.below hbelow;rw[hkeys] at hp;have hp' :=Qz4 hp;have hsort:=Qnd hp';refine⟨{E with w:=w' },rfl,⟨cv,rfl,?_⟩,S',X,Ze8 _⟩;rw[hsort] at hrow;obtain⟨hl,hrow⟩:=hrow;have hlen' :ss'.length=(sortZ ss).length:=by simpa using hl.symm
   unfold Qai;rcases hrow with⟨rfl,h0⟩|⟨g,cap,cur,rfl,q1,q2,q3,q4,q5,q6⟩
   . have:sortZ ss=[]:=Zf7 (by omega);rw[this];simp[Rel]
   . have hne:ss' ≠[]:=fun e=>by have:=hnil.2 e;cases this
     have hne2:((sortZ ss).map (V.int .i64)).isEmpty=false:=by
      cases hs:sortZ ss with
      |nil=>rw[hs] at hlen';exact absurd (Zf7 hlen') hne
      |cons a l=>rfl
     rw[hne2];simp only[Ze7,if_false,Rel];refine⟨⟨g,0,none⟩,cap,(sortZ ss).map encZ,?_,?_,(fun h=>by cases h),.inr ⟨rfl,fun i v hv=>?_⟩,Q18 _,Qpn _⟩
     . simp[hlen']
     . simp only[Zgu];omega
     . rw[<-q6,Zgd,Zfh] at hv;split at hv
       . refine⟨?_,fun hm=>?_⟩
         . simp only[Zff,World.cell?,q2];simpa using hv
         . have:=S.modsz g (0+i) hm;omega
       . cases hv
theorem Q3e{k:TypeId}(hk:P.underlying k=some (.int .i64)){e:MapEntry}{x:Int}(he:e.key=encZ x)(hx: -9223372036854775808<=x/\x<9223372036854775808):WideElems.rd P k Qlg e=some (Lit.int .i64 x,.nil):=by
 have:(Lit.int .i64 x).wf=true:=by
  have h1:IntKind.i64.min= -9223372036854775808:=by decide
  have h2:IntKind.i64.max=9223372036854775807:=by decide
  simp only[Lit.wf,h1,h2,Zfr,decide_eq_true_eq];omega
 simp[WideElems.rd,keyOf,hk,mapKey,he,Qlg,encZ,this]
theorem Qt5{k:TypeId}(hk:P.underlying k=some (.int .i64)){w:World}{b clk:Nat}{es:Array MapEntry}(hb:w.heap[b]?=some (.map es clk))(hst:MapKept.Stamped es clk)
 (hkeys:∀e∈es.toList,∃x:Int,e.key=encZ x/\ -9223372036854775808<=x/\x<9223372036854775808)(hsz:es.size<=1048576):w.ownsMap P k Qlg b 1048576 (Qbj P k es):=
 ⟨es,clk,hb,⟨Ze9 hsz (by decide),hst,fun x hx=>by obtain⟨l,h1,h2⟩:=hkeys x hx;exact⟨_,Q3e hk h1 h2⟩⟩,hsz,rfl⟩
theorem Qqf{k:TypeId}(hk:P.underlying k=some (.int .i64)){es:Array MapEntry}(hkeys:∀e∈es.toList,∃x:Int,e.key=encZ x/\ -9223372036854775808<=x/\x<9223372036854775808):
 ((intKeys (Qbj P k es)).map encZ).Perm (es.toList.map (·.key)):=by
 have h1:((es.toList.map (WideElems.rg P k Qlg)).foldr DataW.insert []).Perm (es.toList.map (WideElems.rg P k Qlg)):=WideShapes.sorted_perm _;have h2:=(h1.map fun p=>intOf p.1).map encZ;refine h2.trans ?_;rw[Zfp,Zfp];have:es.toList.map (encZ∘(fun p:Lit×DataW Unit=>intOf p.1)∘WideElems.rg P k Qlg)=es.toList.map (·.key):=by refine Zgs fun e he=>?_;obtain⟨x,q1,q2⟩:=hkeys e he;simp only[Function.comp,WideElems.rg,Q3e hk q1 q2,Zgi,intOf,q1]
 exact this▸ .refl _
end
end Go.AM
namespace Go.Mod
abbrev Qq:=List UInt8
structure Bw where
 kind:Int
 links:Int
 data:Qq
 deriving Inhabited
structure Qe where
 snap:Bool
 owner:Int
 prev:Int
 key:Nat
 names:List (Qq×Int)
 objs:List Bw
 deriving Inhabited
structure Qpf where
 pass:Qq
 loaded:Bool
 deriving Inhabited
structure MSt where
 last:Int
 keys:List Qpf
 lines:List (Int×Qe)
structure Qkx where
 obj:Int
 kind:Int
 links:Int
 size:Int
 to:Qq
structure Zi where
 err:Int
 id:Int
 data:Qq
 names:List Qq
 info:Qkx
 lines:List Int
structure Zc where
 kind:Int
 a:Int
 b:Int
 c:Int
 name:Qq
 as_:Qq
 text:Qq
 data:Qq
def Qc2:Bw:=⟨0,0,[]⟩
def noInfo:Qkx:=⟨0,0,0,0,[]⟩
def Zl(e:Int):Zi:=⟨e,0,[],[],noInfo,[]⟩
def Qfq(b:UInt8):Bool:=decide (b.toNat<33)||decide (126<b.toNat)
def X8(s:Qq):Bool:=decide (1<=s.length)&&decide (s.length<=14)&&!s.any Qfq
def Kh(s:Qq):Int:=if X8 s then 0 else 240
def Zb:List (Qq×Int)->Qq->Option Int
 |[],_=>none
 |p::l,s=>if s=p.1 then some p.2 else Zb l s
def Qhb:List (Qq×Int)->Qq->Nat->Option Nat
 |[],_,_=>none
 |p::l,s,i=>if s=p.1 then some i else Qhb l s (i+1)
def J6:List (Qq×Int)->Qq->List (Qq×Int)
 |[],_=>[]
 |p::l,s=>if s=p.1 then l else p::J6 l s
def Kj(l:List (Qq×Int))(s:Qq):Int:=if(Zb l s).isSome then 241 else if 16<=l.length then 4 else 0
def Qe.ob(L:Qe)(i:Int):Bw:=(L.objs[i.toNat]?).getD Qc2
def Qe.setOb(L:Qe)(i:Int)(o:Bw):Qe:={L with objs:=L.objs.set i.toNat o}
def Qe.follow(L:Qe):Nat->Qq->Int×Int
 |0,_=>(0,251)
 |n+1,name=>match Zb L.names name with
  |none=>(0,6)
  |some at_=>if(L.ob at_).kind=3 then L.follow n (L.ob at_).data else(at_,0)
def Yy(l:List Bw):Nat->Nat->Nat
 |0,i=>i
 |n+1,i=>if((l[i]?).getD Qc2).kind=0 then i else Yy l n (i+1)
def Qe.free(L:Qe):Nat:=Yy L.objs 15 1
def Y1(e:Int)(snap:Bool):Int:=if e=0 then(if snap then 202 else 0) else e
def Qe.turn(L:Qe)(e:Int)(L' :Qe):Qe×Zi:=if Y1 e L.snap=0 then(L',Zl 0) else(L,Zl (Y1 e L.snap))
def Qp2(L:Qe)(name:Qq):Int:=if Kj L.names name≠0 then Kj L.names name else if L.free=16 then 9 else if L.snap then 202 else 0
def Qe.add(L:Qe)(name:Qq)(o:Bw):Qe×Zi:=
 if Qp2 L name=0 then({L with objs:=L.objs.set L.free o,names:=L.names++[(name,(L.free:Int))]},Zl 0) else(L,Zl (Qp2 L name))
def w64(n:Int):Int:=IntKind.i64.wrap n
def Qe.make(L:Qe)(c:Zc):Qe×Zi:=L.add c.name ⟨1,1,[]⟩
def Qe.point(L:Qe)(c:Zc):Qe×Zi:=if Kh c.as_≠0 then(L,Zl (Kh c.as_)) else L.add c.name ⟨3,1,c.as_⟩
def Qfm(L:Qe)(c:Zc):Int:=
 if Kh c.as_≠0 then Kh c.as_ else match Zb L.names c.name with
  |none=>6
  |some at_=>if(L.ob at_).kind≠1 then 250 else Kj L.names c.as_
def Qe.link(L:Qe)(c:Zc):Qe×Zi:=
 let at_:=(Zb L.names c.name).getD 0
 L.turn (Qfm L c) {L.setOb at_ {L.ob at_ with links:=w64 ((L.ob at_).links+1)} with names:=L.names++[(c.as_,at_)]}
def Qe.unlink(L:Qe)(c:Zc):Qe×Zi:=
 let at_:=(Zb L.names c.name).getD 0
 L.turn (if(Zb L.names c.name).isSome then 0 else 6)
  {L.setOb at_ (if w64 ((L.ob at_).links-1)=0 then Qc2 else{L.ob at_ with links:=w64 ((L.ob at_).links-1)}) with names:=J6 L.names c.name}
def Qaf(L:Qe)(c:Zc):Int:=
 if Kh c.as_≠0 then Kh c.as_ else if(Zb L.names c.name).isSome then(if(Zb L.names c.as_).isSome then 241 else 0) else 6
def Qe.rename(L:Qe)(c:Zc):Qe×Zi:=
 L.turn (Qaf L c) {L with names:=J6 L.names c.name++[(c.as_,(Zb L.names c.name).getD 0)]}
def inR(n:Int):Bool:=decide (0<=n)&&decide (n<=3840)
def Qzo(l:Qq)(c b:Int):Qq:=(l.drop c.toNat).take b.toNat
def Qe.read(L:Qe)(c:Zc):Qe×Zi:=
 if !inR c.b||!inR c.c then(L,Zl 2) else
 if(L.follow 9 c.name).2≠0 then(L,Zl (L.follow 9 c.name).2) else
 (L,{Zl 0 with data:=Qzo (L.ob (L.follow 9 c.name).1).data c.c c.b})
def Jg(l:Qq)(n:Nat):Qq:=l.take n++List.replicate (n-l.length) 0
def over(l:Qq)(o:Nat)(d:Qq):Qq:=l.take o++d++l.drop (o+d.length)
def Qbg(l:Qq)(o:Nat)(d:Qq):Qq:=if d.length=0 then l else over (Jg l (max l.length (o+d.length))) o d
def Qe.write(L:Qe)(c:Zc):Qe×Zi:=
 if !inR c.c||decide ((c.data.length:Int)>3840-c.c) then(L,Zl 2) else
 let f:=L.follow 9 c.name
 L.turn f.2 (L.setOb f.1 {L.ob f.1 with data:=Qbg (L.ob f.1).data c.c.toNat c.data})
def Qe.cut(L:Qe)(c:Zc):Qe×Zi:=
 if !inR c.b then(L,Zl 2) else
 let f:=L.follow 9 c.name
 L.turn f.2 (L.setOb f.1 {L.ob f.1 with data:=Jg (L.ob f.1).data c.b.toNat})
def Qe.stat(L:Qe)(c:Zc):Qe×Zi:=
 match Zb L.names c.name with
 |none=>(L,Zl 6)
 |some at_=>(L,{Zl 0 with info:=⟨at_,(L.ob at_).kind,(L.ob at_).links,(L.ob at_).data.length,if(L.ob at_).kind=3 then(L.ob at_).data else[]⟩})
def Qe.list(L:Qe):Qe×Zi:=(L,{Zl 0 with names:=Go.AM.sortB (L.names.map (·.1))})
structure Q5(L:Qe):Prop where
 n16:L.objs.length=16
 nums:∀p∈L.names,1<=p.2/\p.2<16
 few:L.names.length<=16
 uniq:(L.names.map (·.1)).Nodup
 short:∀p∈L.names,p.1.length<=14
 data:∀o∈L.objs,o.data.length<=3840
theorem Qk8{l:List (Qq×Int)}{s:Qq}{n:Int}(h:Zb l s=some n):(s,n)∈l:=by
 induction l with
 |nil=>cases h
 |cons p l ih=>
  simp only[Zb] at h;split at h
  . rename_i e;subst e;cases h;simp
  . exact List.mem_cons_of_mem _ (ih h)
theorem Qfs{l:List (Qq×Int)}{s:Qq}:Zb l s=none↔s∉l.map (·.1):=by
 induction l with
 |nil=>simp[Zb]
 |cons p l ih=>
  simp only[Zb];split
  . rename_i e;simp[e]
  . rename_i e;rw[ih];simp[e]
theorem Q5.num{L:Qe}(h:Q5 L){s:Qq}{n:Int}(e:Zb L.names s=some n):1<=n/\n<16:=h.nums _ (Qk8 e)
theorem Q5.at_{L:Qe}(h:Q5 L){i:Int}(h0:0<=i)(h1:i<16):L.objs[i.toNat]?=some (L.ob i):=by
 have:i.toNat<L.objs.length:=by rw[h.n16];omega
 simp only[Qe.ob,List.getElem?_eq_getElem this,Option.getD_some]
theorem Q5.dat{L:Qe}(h:Q5 L)(i:Int):(L.ob i).data.length<=3840:=by
 unfold Qe.ob;cases e:L.objs[i.toNat]? with
 |none=>simp[Qc2]
 |some o=>exact h.data o (List.mem_of_getElem? e)
def Zw:List (Int×Qe)->Int->Option Qe
 |[],_=>none
 |p::l,i=>if i=p.1 then some p.2 else Zw l i
def putL:List (Int×Qe)->Int->Qe->List (Int×Qe)
 |[],_,_=>[]
 |p::l,i,L=>if i=p.1 then(p.1,L)::l else p::putL l i L
def Qa0:List (Int×Qe)->Int->List (Int×Qe)
 |[],_=>[]
 |p::l,i=>if i=p.1 then l else p::Qa0 l i
def ids(l:List (Int×Qe)):List Int:=l.map (·.1)
def MSt.keyOf(S:MSt)(L:Qe):Qpf:=(S.keys[L.key]?).getD ⟨[],false⟩
def Bb(id:Int)(k:Nat):Qe:=⟨false,id,0,k,[],List.replicate 16 Qc2⟩
def Qng(S:MSt)(c:Zc):MSt×Zi:=
 if 64<c.text.length then(S,Zl 3) else
 (⟨S.last+1,S.keys++[⟨c.text,true⟩],S.lines++[(S.last+1,Bb (S.last+1) S.keys.length)]⟩,{Zl 0 with id:=S.last+1})
def Qdf(S:MSt)(c:Zc):MSt×Zi:=
 match Zw S.lines c.a with
 |none=>(S,Zl 6)
 |some L=>if L.snap then(S,Zl 202) else
  (⟨S.last+1,S.keys,putL (S.lines++[(S.last+1,{L with snap:=true})]) c.a {L with prev:=S.last+1}⟩,{Zl 0 with id:=S.last+1})
def Qan(S:MSt)(c:Zc):MSt×Zi:=
 match Zw S.lines c.a with
 |none=>(S,Zl 6)
 |some L=>if !L.snap then(S,Zl 2) else
  (⟨S.last+1,S.keys,S.lines++[(S.last+1,{L with snap:=false,prev:=c.a,owner:=S.last+1})]⟩,{Zl 0 with id:=S.last+1})
def Yz(was a:Int):Nat->List (Int×Qe)->Int->List (Int×Qe)
 |0,l,_=>l
 |n+1,l,i=>if i=0 then l else match Zw l i with
  |none=>l
  |some x=>if x.owner=was then Yz was a n (putL l i {x with owner:=a}) x.prev else l
def Qer(l:List (Int×Qe))(i:Int):Int:=((Zw l i).map (·.owner)).getD 0
def Yq(S:MSt)(c:Zc):MSt×Zi:=
 match Zw S.lines c.a with
 |none=>(S,Zl 6)
 |some L=>if L.snap then(S,Zl 202) else if L.prev=0\/Qer S.lines L.prev=c.a then(S,Zl 2) else
  ({S with lines:=Yz (Qer S.lines L.prev) c.a (L.prev.toNat+1) S.lines L.prev},Zl 0)
def Qca(S:MSt)(c:Zc):MSt×Zi:=
 match Zw S.lines c.a with
 |none=>(S,Zl 6)
 |some L=>if L.snap then(S,Zl 202) else if L.prev=0 then(S,Zl 2) else
  match Zw S.lines L.prev with
  |none=>(S,Zl 2)
  |some x=>({S with lines:=putL S.lines c.a {L with names:=x.names,objs:=x.objs}},Zl 0)
def Qdy(l:List (Int×Qe))(a:Int):Nat:=(l.filter fun p=>p.2.snap&&decide (p.2.owner=a)).length
def Qal(l:List (Int×Qe))(a:Int):Nat:=(l.filter fun p=>decide (p.2.prev=a)).length
def Xs(l:List (Int×Qe))(a b:Int):List (Int×Qe):=l.map fun p=>if p.2.prev=a then(p.1,{p.2 with prev:=b}) else p
def Y3(S:MSt)(c:Zc):MSt×Zi:=
 match Zw S.lines c.a with
 |none=>(S,Zl 6)
 |some L=>if(!L.snap&&decide (0<Qdy S.lines c.a))||(L.snap&&decide (1<Qal S.lines c.a)) then(S,Zl 230) else
  ({S with lines:=Qa0 (Xs S.lines c.a L.prev) c.a},Zl 0)
def Qcc(S:MSt)(c:Zc):MSt×Zi:=
 match Zw S.lines c.a with
 |none=>(S,Zl 6)
 |some L=>if 64<c.text.length then(S,Zl 3) else if c.text≠(S.keyOf L).pass then(S,Zl 201) else
  ({S with keys:=S.keys.set L.key {S.keyOf L with loaded:=true}},Zl 0)
def Xx(S:MSt)(c:Zc):MSt×Zi:=
 match Zw S.lines c.a with
 |none=>(S,Zl 6)
 |some L=>if !(S.keyOf L).loaded then(S,Zl 200) else
  ({S with keys:=S.keys.set L.key {S.keyOf L with loaded:=false}},Zl 0)
def Qwn(S:MSt)(_:Zc):MSt×Zi:=(S,{Zl 0 with lines:=Go.AM.sortZ (ids S.lines)})
def Bz(S:MSt)(c:Zc):MSt×Zi:=
 match Zw S.lines c.a with
 |none=>(S,Zl 6)
 |some L=>(S,Zl (if L.snap then 202 else 0))
def Qzf(S:MSt)(_:Zc):MSt×Zi:=(S,Zl 0)
def Kx(k:Int)(L:Qe)(c:Zc):Qe×Zi:=
 if k=9 then L.make c else if k=10 then L.point c else if k=11 then L.link c else if k=12 then L.unlink c else if k=13 then L.rename c else if k=14 then L.read c
 else if k=15 then L.write c else if k=16 then L.cut c else if k=17 then L.stat c else L.list
def Q2(S:MSt)(c:Zc):MSt×Zi:=
 if c.kind=1 then Qng S c else if c.kind=2 then Qdf S c else if c.kind=3 then Qan S c else if c.kind=4 then Yq S c else if c.kind=5 then Qca S c else if c.kind=6 then Y3 S c
 else if c.kind=7 then Qcc S c else if c.kind=8 then Xx S c else if c.kind=19 then Qwn S c else if c.kind=20 then Bz S c else Qzf S c
def Qak(k:Int):Bool:=decide (1<=k/\k<=8)||decide (19<=k/\k<=21)
def Qfp(k:Int):Bool:=decide (9<=k/\k<=18)
def Z0(S:MSt)(c:Zc):MSt×Zi:=
 if Qak c.kind then Q2 S c else
 if !Qfp c.kind then(S,Zl 2) else
 match Zw S.lines c.a with
 |none=>(S,Zl 6)
 |some L=>if !(S.keyOf L).loaded then(S,Zl 200) else if c.kind≠18/\Kh c.name≠0 then(S,Zl 240) else
  ({S with lines:=putL S.lines c.a (Kx c.kind L c).1},(Kx c.kind L c).2)
def Zj:MSt->List Zc->MSt×List Zi
 |S,[]=>(S,[])
 |S,c::l=>((Zj (Z0 S c).1 l).1,(Z0 S c).2::(Zj (Z0 S c).1 l).2)
def Zq:MSt:=⟨0,[],[]⟩
structure J1(S:MSt)(n:Nat):Prop where
 last0:0<=S.last
 last1:S.last<=n
 cnt:S.lines.length<=n
 id0:∀p∈S.lines,1<=p.1
 id1:∀p∈S.lines,p.1<=S.last
 uniq:(ids S.lines).Nodup
 ok:∀p∈S.lines,Q5 p.2
 key:∀p∈S.lines,p.2.key<S.keys.length
 prev:∀p∈S.lines,p.2.prev=0\/∃q∈S.lines,q.1=p.2.prev/\q.2.snap=true
 desc:∀p∈S.lines,p.2.snap=true->p.2.prev<p.1
theorem Zh{l:List (Int×Qe)}{i:Int}{L:Qe}(h:Zw l i=some L):(i,L)∈l:=by
 induction l with
 |nil=>cases h
 |cons p l ih=>
  simp only[Zw] at h;split at h
  . rename_i e;subst e;cases h;simp
  . exact List.mem_cons_of_mem _ (ih h)
theorem Qvx{l:List (Int×Qe)}{i:Int}:Zw l i=none↔i∉ids l:=by
 induction l with
 |nil=>simp[Zw,ids]
 |cons p l ih=>
  simp only[Zw];split
  . rename_i e;simp[ids,e]
  . rename_i e;rw[ih];simp[ids,e]
theorem Qaa{l:List (Int×Qe)}(hu:(ids l).Nodup){i:Int}{L:Qe}(h:(i,L)∈l):Zw l i=some L:=by
 induction l with
 |nil=>cases h
 |cons p l ih=>
  simp only[ids,List.map_cons,List.nodup_cons] at hu;simp only[Zw];rcases List.mem_cons.1 h with rfl|h
  . simp
  . rw[if_neg,ih hu.2 h];rintro rfl;exact hu.1 (List.mem_map.2 ⟨_,h,rfl⟩)
theorem Qdd(l:List (Int×Qe))(i:Int)(L:Qe):ids (putL l i L)=ids l:=by
 induction l with
 |nil=>rfl
 |cons p l ih=>
  simp only[putL];split
  . simp[ids]
  . simp only[ids,List.map_cons] at ih⊢;rw[ih]
theorem Qd7{l:List (Int×Qe)}{i:Int}{L:Qe}{p:Int×Qe}(h:p∈putL l i L):p∈l\/p=(i,L):=by
 induction l with
 |nil=>cases h
 |cons q l ih=>
  simp only[putL] at h;split at h
  . rename_i e;rcases List.mem_cons.1 h with rfl|h
    . right;rw[e]
    . left;exact List.mem_cons_of_mem _ h
  . rcases List.mem_cons.1 h with rfl|h
    . left;simp
    . rcases ih h with h|h
      . left;exact List.mem_cons_of_mem _ h
      . right;exact h
theorem Qeh(l:List (Int×Qe))(i j:Int)(L:Qe):Zw (putL l i L) j=if j=i/\(Zw l i).isSome then some L else Zw l j:=by
 induction l with
 |nil=>simp[putL,Zw]
 |cons p l ih=>
  simp only[putL];by_cases e:i=p.1
  . subst e;by_cases e2:j=p.1
    . subst e2;simp[Zw]
    . simp[Zw,e2]
  . rw[if_neg e];simp only[Zw,ih,e,if_false];by_cases e2:j=p.1
    . subst e2;have:¬p.1=i:=fun h=>e h.symm;simp[this]
    . simp[e2]
theorem J1.line{S:MSt}{n:Nat}(h:J1 S n){i:Int}{L:Qe}(e:Zw S.lines i=some L):Q5 L:=h.ok _ (Zh e)
theorem J1.fresh{S:MSt}{n:Nat}(h:J1 S n):Zw S.lines (S.last+1)=none:=by rw[Qvx];intro hm;obtain⟨p,hp,e⟩:=List.mem_map.1 hm;have:=h.id1 p hp;omega
theorem J1.prevOf{S:MSt}{n:Nat}(h:J1 S n){i:Int}{L:Qe}(e:Zw S.lines i=some L)(hp:L.prev≠0):∃x,Zw S.lines L.prev=some x/\x.snap=true:=by
 rcases h.prev _ (Zh e) with h0|⟨q,hq,e1,e2⟩
 . exact absurd h0 hp
 . refine⟨q.2,?_,e2⟩;apply Qaa h.uniq;rw[<-e1];exact hq
theorem J1.putL{S:MSt}{n:Nat}(ok:J1 S n){i:Int}{L L' :Qe}(hL:Zw S.lines i=some L)(h1:Q5 L')(h2:L'.key=L.key)(h3:L'.prev=L.prev)(h4:L'.snap=L.snap):J1 {S with lines:=putL S.lines i L' } n:=by
 have hm:=Zh hL;have key:∀p∈Mod.putL S.lines i L',∃q∈S.lines,p.1=q.1/\p.2.key=q.2.key/\p.2.prev=q.2.prev/\p.2.snap=q.2.snap/\(Q5 p.2):=by
  intro p hp;rcases Qd7 hp with h|rfl
  . exact⟨p,h,rfl,rfl,rfl,rfl,ok.ok p h⟩
  . exact⟨(i,L),hm,rfl,h2,h3,h4,h1⟩
 have back:∀q∈S.lines,∃p∈Mod.putL S.lines i L',p.1=q.1/\p.2.snap=q.2.snap:=by
  intro q hq;have hq2:=Qaa ok.uniq (i:=q.1) (L:=q.2) hq;have h5:=Qeh S.lines i q.1 L';split at h5
  . rename_i e;refine⟨_,Zh h5,rfl,?_⟩;rw[<-e.1,hq2] at hL;cases hL;exact h4
  . rw[hq2] at h5;exact⟨_,Zh h5,rfl,rfl⟩
 refine⟨ok.last0,ok.last1,?_,fun p hp=>?_,fun p hp=>?_,by rw[Qdd];exact ok.uniq,fun p hp=>?_,fun p hp=>?_,fun p hp=>?_,fun p hp=>?_⟩
 . have e:=congrArg List.length (Qdd S.lines i L');simp only[ids,List.length_map] at e;simp only[e];exact ok.cnt
 . obtain⟨q,hq,e1,_⟩:=key p hp;rw[e1];exact ok.id0 q hq
 . obtain⟨q,hq,e1,_⟩:=key p hp;rw[e1];exact ok.id1 q hq
 . obtain⟨q,hq,_,_,_,_,h⟩:=key p hp;exact h
 . obtain⟨q,hq,_,e,_⟩:=key p hp;rw[e];exact ok.key q hq
 . obtain⟨q,hq,_,_,e,_⟩:=key p hp;rw[e];rcases ok.prev q hq with h0|⟨r,hr,e1,e2⟩
   . exact .inl h0
   . obtain⟨r',hr',f1,f2⟩:=back r hr;exact .inr ⟨r',hr',f1.trans e1,f2.trans e2⟩
 . obtain⟨q,hq,e1,_,e2,e3,_⟩:=key p hp;rw[e1,e2,e3];exact ok.desc q hq
theorem Q5.owner{L:Qe}(h:Q5 L)(o:Int):Q5 {L with owner:=o}:=⟨h.n16,h.nums,h.few,h.uniq,h.short,h.data⟩
end Go.Mod
end
