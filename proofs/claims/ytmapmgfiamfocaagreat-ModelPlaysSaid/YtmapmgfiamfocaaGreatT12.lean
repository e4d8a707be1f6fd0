/- This file holds in one the texts An30, An31, An32, An33, An34, An37, An40, An41, An48, An52, An54, An36, An42; each says at its head what it proves. -/
import Derived.Test.YtmapmgfiamfocaaGreatT10
import Derived.Test.YtmapmgfiamfocaaGreatT11
set_option linter.unusedSimpArgs false
set_option linter.unusedVariables false
section
namespace Go.AM
def W(X:Out)(Q:Ex->List V->Qg->Prop):Prop:=match X with
 |some (e,t,H)=>Q e t H
 |none=>False
theorem W.mono{X:Out}{Q Q' :Ex->List V->Qg->Prop}(h:W X Q)(k:∀e t H,Q e t H->Q' e t H):W X Q' :=by
 cases X with
 |none=>exact h
 |some x=>exact k _ _ _ h
theorem W.out{X:Out}{Q:Ex->List V->Qg->Prop}(h:W X Q):∃e t H,X=some (e,t,H)/\Q e t H:=by
 cases X with
 |none=>exact h.elim
 |some x=>exact⟨_,_,_,rfl,h⟩
section
variable {P : Program} {pol : Pol} {C : Call} {L : Yu -> Qas} {fn fr : Nat} {t : List V} {H : Qg} {d : Option Nat} {k k' : List It} {Q : Ex -> List V -> Qg -> Prop}
theorem W.done{e:Ex}(h:Q e t H):W (some (e,t,H)) Q:=h
theorem W.ite{b:Bool}(h1:b=true->W (U P pol C L fn fr k .normal t H) Q)(h2:b=false->W (U P pol C L fn fr k' .normal t H) Q):W (UI P pol C L fn fr (.bool b) k k' t H) Q:=by
 cases b with
 |true=>exact h1 rfl
 |false=>exact h2 rfl
theorem W.guard{b want:Bool}(h1:b=want->W (U P pol C L fn fr k .normal t H) Q)(h2:b=(!want)->W (U P pol C L fn fr k' .normal (Z5 t d nov) H) Q):W (UG P pol C L fn fr (some (.bool b)) want k k' d t H) Q:=by
 unfold UG;by_cases h:b=want
 . simp only[h,if_true];exact h1 h
 . simp only[h,if_false];exact h2 (by cases b<;>cases want<;>simp_all)
theorem W.guardT{b:Bool}(h1:b=true->W (U P pol C L fn fr k .normal t H) Q)(h2:b=false->W (U P pol C L fn fr k' .normal (Z5 t d nov) H) Q):W (UG P pol C L fn fr (some (.bool b)) true k k' d t H) Q:=W.guard h1 h2
theorem W.guardF{b:Bool}(h1:b=false->W (U P pol C L fn fr k .normal t H) Q)(h2:b=true->W (U P pol C L fn fr k' .normal (Z5 t d nov) H) Q):W (UG P pol C L fn fr (some (.bool b)) false k k' d t H) Q:=W.guard h1 h2
theorem W.ul{X:Out}(h:W X fun e t H=>W (U P pol C L fn fr k e t H) Q):W (UL P pol C L fn fr X k) Q:=by
 cases X with
 |none=>exact h.elim
 |some x=>exact h
theorem W.uc{X:Option (Rt×Qg)}{v:V}{H' :Qg}(h:X=some (.ret v,H'))(h2:W (U P pol C L fn fr k .normal (Z5 t d v) H') Q):W (UC P pol C L fn fr X d k k' t) Q:=by subst h;exact h2
theorem W.loop{α:Type}{b:Code}(I:α->List V->Qg->Prop)(m:α->Nat)
 (step:∀a t H,I a t H->∃t1 H1,forget pol fn fr (Jl b) t H=some (t1,H1)/\W (U P pol C Yc fn fr [.code b] .normal t1 H1) fun e t2 H2=>match e with
   | .normal=>∃a',I a' t2 H2/\m a' <m a
   |e=>Q e t2 H2)(a:α)(h:I a t H)(hn:Ki b=none:=by rfl):W (Yc (round P pol C Yc fn fr b) t H) Q:=by
 induction hm:m a using Nat.strongRecOn generalizing a t H with
 |ind n ih=>
  subst hm;obtain⟨t1,H1,h1,h2⟩:=step a t H h;obtain⟨e,t2,H2,h3,h4⟩:=h2.out;rw[Q2l ((Q3k hn h1).trans (by rw[h3]))];cases e with
  |normal=>
   obtain⟨a',h5,h6⟩:=h4;exact ih _ h6 a' h5 rfl
  |exit i=>exact h4
  |ret=>exact h4
  |panic v=>exact h4
theorem W.loopS{α:Type}{b:Code}{kt:List Nat}(hk:pol.keep fn (Jl b)=some (kt,[]))(S:α->List V)(HS:α->Qg)(I:α->Prop)(m:α->Nat)
 (step:∀a,I a->W (U P pol C Yc fn fr [.code b] .normal (S a) (HS a)) fun e t2 H2=>match e with
   | .normal=>∃a',Bq kt t2 0=S a' /\H2=HS a' /\I a' /\m a' <m a
   |e=>Q e t2 H2)(a:α)(h:I a)(ht:Bq kt t 0=S a)(hH:H=HS a)(hn:Ki b=none:=by rfl)(hm:pol.move fn (Jl b)=none:=by rfl):W (Yc (round P pol C Yc fn fr b) t H) Q:=by
 refine W.loop (Q:=Q) (fun a t H=>Bq kt t 0=S a/\H=HS a/\I a) m ?_ a ⟨ht,hH,h⟩ hn;rintro a t H ⟨h1,h2,h3⟩;refine⟨S a,HS a,by rw[Bo hk hm,h1,h2],(step a h3).mono ?_⟩;intro e t2 H2 h4;cases e with
 |normal=>obtain⟨a',q1,q2,q3,q4⟩:=h4;exact⟨a',⟨q1,q2,q3⟩,q4⟩
 |exit i=>exact h4
 |ret=>exact h4
 |panic v=>exact h4
def End(P:Program)(F:Func)(b:Nat)(R:Rt->Qg->Prop)(e:Ex)(t:List V)(H:Qg):Prop:=match e with
 | .normal| .ret=>∃v,Qil P F t H=some v/\R (.ret v) (Yb b v H)
 | .panic v=>R (.pan v) (Yb b v H)
 | .exit _=>False
theorem End.ret{F:Func}{b:Nat}{R:Rt->Qg->Prop}{v:V}(h:Qil P F t H=some v)(h2:R (.ret v) (Yb b v H)):End P F b R .ret t H:=⟨v,h,h2⟩
def CW(P:Program)(pol:Pol)(f:FuncId)(args:List V)(H:Qg)(R:Rt->Qg->Prop):Prop:=∃r H',Zx P pol f args H=some (r,H')/\R r H'
theorem CW.mono{f:FuncId}{args:List V}{R R' :Rt->Qg->Prop}(h:CW P pol f args H R)(k:∀r H',R r H' ->R' r H'):CW P pol f args H R' :=by obtain⟨r,H',h1,h2⟩:=h;exact⟨r,H',h1,k _ _ h2⟩
theorem Qol{f:FuncId}{F:Func}{c:Code}{args:List V}{R:Rt->Qg->Prop}(hF:P.funcs[f]?=some F)(hc:F.body=some c)
 (h:W (U P pol (Zx P pol) Yc f H.length [.code c] .normal (args++List.replicate (F.ntmps-args.length) .bad) (H++[[]])) (End P F H.length R))(hs:pol.settle f=[]:=by rfl):CW P pol f args H R:=by
 obtain⟨e,t',H',h1,h2⟩:=h.out;have key:∀r,Qhv P F H.length (some (e,t',H'))=some r->Zx P pol f args H=some r:=fun r hr=>Q6e hF hc (by rw[h1];exact hr) hs;cases e with
 |normal=>
  obtain⟨v,h3,h4⟩:=h2;exact⟨_,_,key (.ret v,Yb H.length v H') (by simp only[Qhv,h3]),h4⟩
 |ret=>
  obtain⟨v,h3,h4⟩:=h2;exact⟨_,_,key (.ret v,Yb H.length v H') (by simp only[Qhv,h3]),h4⟩
 |exit i=>exact h2.elim
 |panic v=>exact⟨_,_,key (.pan v,Yb H.length v H') rfl,h2⟩
theorem cw_ofS{f:FuncId}{F:Func}{c:Code}{args:List V}{R:Rt->Qg->Prop}(hF:P.funcs[f]?=some F)(hc:F.body=some c)
 (h:W (U P pol (Zx P pol) Yc f H.length [.code c] .normal (args++List.replicate (F.ntmps-args.length) .bad) (H++[[]])) fun e t H' =>match e with
   | .normal| .ret=>∃H2,Bc (pol.settle f) t H' =some H2/\End P F H.length R .ret t H2
   |e=>End P F H.length R e t H'):CW P pol f args H R:=by
 obtain⟨e,t',H',h1,h2⟩:=h.out;have key:∀r,Qhv P F H.length (Qbl (pol.settle f) (some (e,t',H')))=some r->Zx P pol f args H=some r:=fun r hr=>Qwf hF hc (by rw[h1];exact hr);cases e with
 |normal=>
  obtain⟨H2,hl,v,h3,h4⟩:=h2;exact⟨_,_,key (.ret v,Yb H.length v H2) (by simp only[Qbl,hl,Ze4,Qhv,h3]),h4⟩
 |ret=>
  obtain⟨H2,hl,v,h3,h4⟩:=h2;exact⟨_,_,key (.ret v,Yb H.length v H2) (by simp only[Qbl,hl,Ze4,Qhv,h3]),h4⟩
 |exit i=>exact h2.elim
 |panic v=>exact⟨_,_,key (.pan v,Yb H.length v H') rfl,h2⟩
def Fz(P:Program)(pol:Pol)(f:FuncId)(args:List V)(R:V->Prop):Prop:=∃v H' v',Zx P pol f args []=some (.ret v,H')/\frz (Qd H') depth v=some v' /\R v'
theorem Fz.of_cw{f:FuncId}{args:List V}{R:V->Prop}(h:CW P pol f args [] fun r H' =>∃v,r= .ret v/\∃v',frz (Qd H') depth v=some v' /\R v'):Fz P pol f args R:=by obtain⟨r,H',h1,v,rfl,v',h2,h3⟩:=h;exact⟨v,H',v',h1,h2,h3⟩
theorem Fz.op' {f:FuncId}{args args' :List V}{R:V->Prop}(h:Fz P pol f args' R)(hp:pol.prim f=none)(ha:frzL (frz (fun _ _=>none) depth) args=some args'):
 ∃v,R v/\∀(fn fr:Nat) (d:Option Nat) (H:Qg),pol.pure fn f=true->Zn pol (Zx P pol) fn fr d f args H=some (.ret v,H):=by
 obtain⟨v,H',v',h1,h2,h3⟩:=h;exact⟨v',h3,fun fn fr d H hq=>Ql9 hp hq ha h1 h2⟩
theorem Fz.op{f:FuncId}{args:List V}{R:V->Prop}(h:Fz P pol f args R)(hp:pol.prim f=none)(ha:frzL (frz (fun _ _=>none) depth) args=some args):
 ∃v,R v/\∀(fn fr:Nat) (d:Option Nat) (H:Qg),pol.pure fn f=true->Zn pol (Zx P pol) fn fr d f args H=some (.ret v,H):=by
 obtain⟨v,H',v',h1,h2,h3⟩:=h;exact⟨v',h3,fun fn fr d H hq=>Ql9 hp hq ha h1 h2⟩
theorem Qq9{f:FuncId}{args:List V}{r:Rt×Qg}(hp:pol.prim f=none)(hq:pol.pure fn f=false)(ht:pol.thin fn f=false)(h:Zx P pol f args H=some r)(hl:pol.lift fn f=false:=by rfl)(hk:pol.look fn f=false:=by rfl)(hz:pol.peek fn f=false:=by rfl)(hw:pol.side fn f=none:=by rfl)(hal:pol.alone fn d=false:=by rfl):Zn pol (Zx P pol) fn fr d f args H=some r:=by simp only[Zn,hp,Pol.pureA_f hq hal,hl,hk,hz,hw,Qgo,Qgp,Qb0,ht,Ze7,if_false,h]
theorem Qma{f:FuncId}{args:List V}{v:V}{H1:Qg}{ks:List Nat}{x:Option Nat}(hw:pol.side fn f=some (ks,x))(hp:pol.prim f=none)(hq:pol.pure fn f=false)(ht:pol.thin fn f=false)(h:Zx P pol f args H=some (.ret v,H1))(h1:∀k∈ks,Qd H1 fr k=Qd H fr k)
 (h2:∀d,x=some d->(fr<H.length/\fr<H1.length/\Qd H1 fr d=Qd H fr d)/\∀cs,Qd H fr d=none->pol.news fn d=some cs->Zx P pol f args (Qs H fr d (.cells cs))=some (.ret v,Qs H1 fr d (.cells cs)))
 (hl:pol.lift fn f=false:=by rfl)(hk:pol.look fn f=false:=by rfl)(hz:pol.peek fn f=false:=by rfl)(hal:pol.alone fn d=false:=by rfl):Zn pol (Zx P pol) fn fr d f args H=some (.ret v,H1):=by
 simp only[Zn,hp,Pol.pureA_f hq hal,hl,hk,hw,hz,Qgp,Qb0,ht,Ze7,if_false];exact Qfh fr h h1 h2
end
theorem Qo7(g g' :Get):∀(n:Nat),(∀v:V,v.refs (fun _ _=>true)=false->frz g n v=frz g' n v)
 |0=>fun _ _=>rfl
 |n+1=>by
  have ih:=Qo7 g g' n;have ihL:∀l:List V,Zv (fun _ _=>true) l=false->frzL (frz g n) l=frzL (frz g' n) l:=by
   intro l
   induction l with
   |nil=>intro _;rfl
   |cons x l ihl=>
    intro h;simp only[Zv,Zf5] at h;simp only[frzL,ih x h.1,ihl h.2]
  intro v h;cases v with
  |ptr=>simp[V.refs] at h
  |gS=>simp[V.refs] at h
  |mS=>simp[V.refs] at h
  |map=>simp[V.refs] at h
  |mg=>simp[V.refs] at h
  |mp=>simp[V.refs] at h
  |func fn a b=>
   simp only[V.refs,Zf5] at h;simp only[frz,ihL a h.1,ihL b h.2]
  |face t x=>simp only[V.refs] at h;simp only[frz,ih x h]
  |agg cs=>simp only[V.refs] at h;simp only[frz,ihL cs h]
  |tuple cs=>simp only[V.refs] at h;simp only[frz,ihL cs h]
  |rptr cs o=>simp only[V.refs] at h;simp only[frz,ihL cs h]
  |_=>rfl
theorem Q3x{p q:Nat->Nat->Bool}(h:∀a b,p a b=q a b)(v:V):v.refs p=v.refs q:=by
 have:p=q:=by funext a b;exact h a b
 rw[this]
theorem Qur(v:V)(H:Qg)(n:Nat):frz (Qd (Yb 0 v H)) n v=frz (Qd H) n v:=by
 unfold Yb;split
 . rename_i h;simp only[Zfr,Zf6] at h;apply Qo7;rw[<-h.1];exact Q3x (fun a b=>by simp) v
 . rfl
section
variable {P : Program} {pol : Pol}
def Zg(P:Program)(F:Func)(R:V->Prop)(e:Ex)(t:List V)(H:Qg):Prop:=match e with
 | .normal| .ret=>∃v v',Qil P F t H=some v/\frz (Qd H) depth v=some v' /\R v'
 |_=>False
theorem Zg.ret{F:Func}{R:V->Prop}{t:List V}{H:Qg}{v v' :V}(h:Qil P F t H=some v)(h1:frz (Qd H) depth v=some v')(h2:R v'):Zg P F R .ret t H:=⟨v,v',h,h1,h2⟩
theorem Jx{f:FuncId}{F:Func}{c:Code}{args:List V}{R:V->Prop}(hF:P.funcs[f]?=some F)(hc:F.body=some c)
 (h:W (U P pol (Zx P pol) Yc f 0 [.code c] .normal (args++List.replicate (F.ntmps-args.length) .bad) [[]]) (Zg P F R))(hs:pol.settle f=[]:=by rfl):Fz P pol f args R:=by
 apply Fz.of_cw;refine Qol hF hc (h.mono ?_) hs;intro e t H h;cases e with
 |normal=>obtain⟨v,v',h1,h2,h3⟩:=h;exact⟨v,h1,v,rfl,v',by rw[<-h2];exact Qur v H depth,h3⟩
 |ret=>obtain⟨v,v',h1,h2,h3⟩:=h;exact⟨v,h1,v,rfl,v',by rw[<-h2];exact Qur v H depth,h3⟩
 |exit i=>exact h.elim
 |panic v=>exact h.elim
end
def Ql(esz:Nat)(v:V)(cells:List V)(n:Nat):Prop:=cells.length=n*esz/\((v= .nS/\n=0)\/∃full,v= .iS cells n full)
theorem Ql.mk{esz:Nat}{cells:List V}{n:Nat}{full:Bool}(h:cells.length=n*esz):Ql esz (.iS cells n full) cells n:=⟨h,.inr ⟨full,rfl⟩⟩
theorem Ql.nil{esz:Nat}:Ql esz .nS [] 0:=⟨by simp,.inl ⟨rfl,rfl⟩⟩
section
variable {P : Program} {esz n : Nat} {v : V} {cells : List V} {u e : TypeId} {g : Get} {k : IntKind}
theorem Ql.frz(h:Ql esz v cells n)(m:Nat):AM.frz g (m+1) v=some v:=by obtain⟨_,⟨rfl,_⟩|⟨f,rfl⟩⟩:=h<;>rfl
theorem Ql.len(hu:P.underlying u=some (.slice e))(h:Ql esz v cells n):∀g,Qaw P g u v=some (.int .i64 n):=by
 intro g;obtain⟨_,⟨rfl,rfl⟩|⟨f,rfl⟩⟩:=h
 . exact Q5r hu
 . exact Q2i hu _ _ _
theorem Ql.at(hu:P.underlying u=some (.slice e))(hs:sz P e=some esz)(he:0<esz)(h:Ql esz v cells n){i:Int}(h0:0<=i)(hi:i<n):Zs P u v (.int k i)=some (.iptr cells (i.toNat*esz)):=by
 obtain⟨hl,⟨rfl,rfl⟩|⟨f,rfl⟩⟩:=h
 . omega
 . rw[ia_of hu hs,if_pos ⟨h0,hi,hl,he⟩]
theorem Ql.sc(h:Ql esz v cells n):Z3 g esz v=some (cells,n):=by
 obtain⟨hl,⟨rfl,rfl⟩|⟨f,rfl⟩⟩:=h
 . have:cells=[]:=Zf7 (by simpa using hl);subst this;rfl
 . simp[Z3,hl]
theorem Ql.noRefs(h:Ql esz v cells n)(p:Nat->Nat->Bool):v.refs p=false:=by obtain⟨_,⟨rfl,_⟩|⟨f,rfl⟩⟩:=h<;>rfl
theorem Ql.pure(h:Ql esz v cells n):v.pure=true:=by obtain⟨_,⟨rfl,_⟩|⟨f,rfl⟩⟩:=h<;>rfl
end
theorem Q69{cells:List V}{n esz:Nat}{full:Bool}(hl:cells.length=n*esz)(lo hi:Option Int)(h0:0<=lo.getD 0)(h1:lo.getD 0<=hi.getD n)(h2:hi.getD n<=n):
 ∃f,Qnf cells n full esz lo hi none=some (.iS ((cells.drop ((lo.getD 0).toNat*esz)).take (((hi.getD n).toNat-(lo.getD 0).toNat)*esz)) ((hi.getD n).toNat-(lo.getD 0).toNat) f):=by
 refine⟨(full||(none:Option Int).isSome)&&((n:Int).toNat==(hi.getD n).toNat),?_⟩;simp only[Qnf,hl,if_true,Qfg,Zf8];rw[if_pos ⟨by omega,by omega,by omega,by omega,h0,h1,by simp⟩]
theorem Ql.cut{P:Program}{esz n:Nat}{v:V}{cells:List V}{u e:TypeId}(hu:P.underlying u=some (.slice e))(hs:sz P e=some esz)(h:Ql esz v cells n)(lo hi:Option Int)
 (h0:0<=lo.getD 0)(h1:lo.getD 0<=hi.getD n)(h2:hi.getD n<=n):
 ∃w,(∀g,Qci P g u v (lo.map (.int .i64)) (hi.map (.int .i64)) none=some w)/\Ql esz w ((cells.drop ((lo.getD 0).toNat*esz)).take (((hi.getD n).toNat-(lo.getD 0).toNat)*esz)) ((hi.getD n).toNat-(lo.getD 0).toNat):=by
 have ol:Qgf (lo.map (.int .i64))=some lo:=by cases lo<;>rfl
 have oh:Qgf (hi.map (.int .i64))=some hi:=by cases hi<;>rfl
 have on:Qgf none=some none:=rfl;obtain⟨hl,⟨rfl,rfl⟩|⟨f,rfl⟩⟩:=h
 . refine⟨.nS,fun g=>?_,?_⟩
   . simp only[Qci,ol,oh,on,hu,hs,Qfg];rw[if_pos ⟨by simp,by simp,by simp only[Int.natCast_zero] at*;omega,by simp at*;omega,h0,h1,by simp⟩]
   . have:cells=[]:=Zf7 (by simpa using hl);subst this;have e:(hi.getD (0:Nat)).toNat-(lo.getD 0).toNat=0:=by omega
     rw[e];exact⟨by simp,.inl ⟨rfl,rfl⟩⟩
 . obtain⟨f',e⟩:=Q69 (full:=f) hl lo hi h0 h1 h2;refine⟨_,fun g=>?_,Ql.mk (full:=f') ?_⟩
   . simp only[Qci,ol,oh,on,hu,hs];exact e
   . rw[Zf9,Zga,hl,<-Nat.sub_mul];apply Zgb;apply Zgc;omega
def Qx(v:V)(l:List UInt8):Prop:=Ql 1 v (Qp l) l.length
theorem Ja(l:List UInt8):(Qp l).length=l.length:=by simp[Qp]
theorem Qhr(l:List UInt8)(i:Nat):(Qp l)[i]?=(l[i]?).map fun b=> .int .u8 b.toNat:=by simp[Qp]
theorem Qfn(l:List UInt8)(n:Nat):(Qp l).take n=Qp (l.take n):=by simp[Qp]
theorem Qtj(l:List UInt8)(n:Nat):(Qp l).drop n=Qp (l.drop n):=by simp[Qp]
theorem Qx.mk(l:List UInt8)(full:Bool):Qx (.iS (Qp l) l.length full) l:=Ql.mk (by simp[Ja])
theorem Qx.nil:Qx .nS []:=Ql.nil
theorem Qgr:∀l:List UInt8,AM.bytesOf (Qp l)=some l
 |[]=>rfl
 |b::l=>by
  have:=Qgr l;simp only[Qp,Zfn,AM.bytesOf] at this⊢;rw[this];simp
theorem Qx.cut{P:Program}{v:V}{l:List UInt8}{u e:TypeId}(hu:P.underlying u=some (.slice e))(hs:sz P e=some 1)(h:Qx v l)(lo hi:Option Int)
 (h0:0<=lo.getD 0)(h1:lo.getD 0<=hi.getD l.length)(h2:hi.getD l.length<=l.length):
 ∃w,(∀g,Qci P g u v (lo.map (.int .i64)) (hi.map (.int .i64)) none=some w)/\Qx w ((l.drop (lo.getD 0).toNat).take ((hi.getD l.length).toNat-(lo.getD 0).toNat)):=by
 obtain⟨w,h3,h4⟩:=Ql.cut hu hs h lo hi h0 h1 h2;refine⟨w,h3,?_⟩;simp only[Zgd,Qtj,Qfn] at h4;unfold Qx;rwa[show((l.drop (lo.getD 0).toNat).take ((hi.getD l.length).toNat-(lo.getD 0).toNat)).length=(hi.getD l.length).toNat-(lo.getD 0).toNat by rw[Zf9,Zga];omega]
def Jm(l:List Int):List V:=l.map fun i=> .int .i64 i
def Y0(v:V)(l:List Int):Prop:=Ql 1 v (Jm l) l.length
theorem Qqt(l:List Int):(Jm l).length=l.length:=by simp[Jm]
theorem Qyf(l:List Int)(i:Nat):(Jm l)[i]?=(l[i]?).map fun b=> .int .i64 b:=by simp[Jm]
theorem Y0.mk(l:List Int)(full:Bool):Y0 (.iS (Jm l) l.length full) l:=Ql.mk (by simp[Qqt])
theorem Y0.nil:Y0 .nS []:=Ql.nil
theorem X6(l:List UInt8):Zt (Qp l)=true:=by
 induction l with
 |nil=>rfl
 |cons b l ih=>simp only[Qp,Zfn,Zt,V.pure,Zge] at ih⊢;exact ih
def Qw9(pol:Pol)(fn fr:Nat)(d:Option Nat)(ids:List (Nat×Nat))(f:FuncId):FP:=
 if(pol.prim f).isNone&&pol.pureA fn f d then .quiet else if(pol.prim f).isNone&&pol.lift fn f then(match d with
  |some d=> .ids ids [(fr,d)]
  |none=> .all) else if(pol.prim f).isNone&&(pol.look fn f||pol.peek fn f) then .peek else Qgt pol fn fr f
section
variable (P : Program) (pol : Pol) (C : Call) (L : Yu -> Qas) (fn fr : Nat)
def UCT(X:Option (Rt×Qg))(d:Option Nat)(k:List It)(t:List V):Out:=match X with
 |some (.ret v,H)=>U P pol C L fn fr k .normal (Z5 t d v) H
 |_=>none
def UST(q far:Bool)(ids:List (Nat×Nat))(X:Option Yv)(d:Option Nat)(a:Array Oper)(r:List Oper)(T:List FP)(k:List It)(t:List V)(H:Qg):Out:=match X with
 |some (.val v none)=>U P pol C L fn fr (.opsT a r ((if q then .quiet else if far then .all else .ids ids [])::T)::k) .normal (Z5 t d v) H
 |some (.val v (some (f,s,o)))=>U P pol C L fn fr (.opsT a r ((if q then .quiet else if far then .all else fpW pol fn fr ids H f s o)::T)::k) .normal (Z5 t d v) (Qs H f s o)
 |some (.round f s args)=>UR P pol C L fn fr (C none (.yield f s::args) H) d (.opsT a r ((if q then .quiet else .all)::T)::k) t
 |some (.call f args)=>UCT P pol C L fn fr (Zn pol C fn fr d f args H) d (.opsT a r ((if q then .quiet else if far then .all else Qw9 pol fn fr d ids f)::T)::k) t
 |_=>none
def UGT(v:Option V)(want:Bool)(o:Oper)(d:Option Nat)(a:Array Oper)(r:List Oper)(T:List FP)(k:List It)(t:List V)(H:Qg):Out:=match v with
 |some (.bool b)=>if b=want then U P pol C L fn fr (.opsT a (o::r) T::k) .normal t H else U P pol C L fn fr (.opsT a r (.quiet::T)::k) .normal (Z5 t d nov) H
 |some (.tuple [])=>U P pol C L fn fr (.opsT a r (.quiet::T)::k) .normal (Z5 t d nov) H
 |_=>none
end
section
variable {P : Program} {pol : Pol} {C : Call} {L : Yu -> Qas} {fn fr : Nat} {r : List Oper} {t : List V} {H : Qg} {d : Option Nat} {ty u : TypeId} {ps : String} {af : Array Edge} {x y z : Operand} {k : List It} {v : V} {a : Array Oper} {T : List FP}
theorem Q6w:UCT P pol C L fn fr (some (.ret v,H)) d k t=U P pol C L fn fr k .normal (Z5 t d v) H:=rfl
theorem Q6s{q far:Bool}{ids:List (Nat×Nat)}:UST P pol C L fn fr q far ids (some (.val v none)) d a r T k t H=U P pol C L fn fr (.opsT a r ((if q then .quiet else if far then .all else .ids ids [])::T)::k) .normal (Z5 t d v) H:=rfl
theorem Q7v{q far:Bool}{ids:List (Nat×Nat)}{f s:Nat}{o:O}:UST P pol C L fn fr q far ids (some (.val v (some (f,s,o)))) d a r T k t H=U P pol C L fn fr (.opsT a r ((if q then .quiet else if far then .all else fpW pol fn fr ids H f s o)::T)::k) .normal (Z5 t d v) (Qs H f s o):=rfl
theorem Q33{q far:Bool}{ids:List (Nat×Nat)}{f:FuncId}{args:List V}:UST P pol C L fn fr q far ids (some (.call f args)) d a r T k t H=
 UCT P pol C L fn fr (Zn pol C fn fr d f args H) d (.opsT a r ((if q then .quiet else if far then .all else Qw9 pol fn fr d ids f)::T)::k) t:=rfl
theorem ugt_tt{o:Oper}:UGT P pol C L fn fr (some (.bool true)) true o d a r T k t H=U P pol C L fn fr (.opsT a (o::r) T::k) .normal t H:=rfl
theorem ugt_ff{o:Oper}:UGT P pol C L fn fr (some (.bool false)) false o d a r T k t H=U P pol C L fn fr (.opsT a (o::r) T::k) .normal t H:=rfl
theorem ugt_tf{o:Oper}:UGT P pol C L fn fr (some (.bool true)) false o d a r T k t H=U P pol C L fn fr (.opsT a r (.quiet::T)::k) .normal (Z5 t d nov) H:=rfl
theorem ugt_ft{o:Oper}:UGT P pol C L fn fr (some (.bool false)) true o d a r T k t H=U P pol C L fn fr (.opsT a r (.quiet::T)::k) .normal (Z5 t d nov) H:=rfl
theorem ugt_no{want:Bool}{o:Oper}:UGT P pol C L fn fr (some (.tuple [])) want o d a r T k t H=U P pol C L fn fr (.opsT a r (.quiet::T)::k) .normal (Z5 t d nov) H:=rfl
theorem Qlr{o:Oper}(hw:Ba a t o=some true):U P pol C L fn fr (.opsT a (o::r) T::k) .normal t H=match J5 P pol C fn fr t H o with
 |some (.normal,t1,H1)=>U P pol C L fn fr (.opsT a r (Bl P pol fn fr t H o::T)::k) .normal t1 H1
 |_=>none:=by
 simp only[U,Jc,hw];cases J5 P pol C fn fr t H o with
 |none=>rfl
 |some x=>
  obtain⟨e,t1,H1⟩:=x;cases e with
  |normal=>
   simp only;cases Jc P pol C fn fr a r t1 H1 with
   |none=>rfl
   |some y=>
    obtain⟨t2,H2,T2⟩:=y;simp only[Zf4,Zgf,Zgg,List.singleton_append]
  |_=>rfl
theorem w_opT{op:Op}:U P pol C L fn fr (.opsT a ({dst:=d,op:=op,type:=ty,pos:=ps,after:=af,guard:=none}::r) T::k) .normal t H=
 UST P pol C L fn fr (J9 op) (Qjz op) (Xr fr (rho t) {dst:=d,op:=op,type:=ty,pos:=ps,after:=af,guard:=none}) (K0 P (pol.mt fn) fr (Qd H) (rho t) {dst:=d,op:=op,type:=ty,pos:=ps,after:=af,guard:=none}) d a r T k t H:=by
 rw[Qlr rfl];simp only[J5,Bl];cases K0 P (pol.mt fn) fr (Qd H) (rho t) {dst:=d,op:=op,type:=ty,pos:=ps,after:=af,guard:=none} with
 |none=>rfl
 |some s=>
  cases s with
  |val v w=>
   cases w with
   |none=>simp only[UST,wr]
   |some w=>obtain⟨f,s,o⟩:=w;simp only[UST,wr]
  |panic v=>rfl
  |call f args=>
   simp only[UST,UCT,Qw9];cases Zn pol C fn fr d f args H with
   |none=>rfl
   |some q=>obtain⟨q,H'⟩:=q;cases q<;>rfl
  |round f s args=>
   simp only[UST,UR];cases C none (.yield f s::args) H with
   |none=>rfl
   |some q=>obtain⟨q,H'⟩:=q;cases q with
    |ret v=>
     simp only;cases J9 op<;>cases Qjz op<;>rfl
    |pan v=>rfl
theorem Q2q{op:Op}{j:Nat}{want:Bool}:U P pol C L fn fr (.opsT a ({dst:=d,op:=op,type:=ty,pos:=ps,after:=af,guard:=some (j,want)}::r) T::k) .normal t H=
 UGT P pol C L fn fr (gd a t j) want {dst:=d,op:=op,type:=ty,pos:=ps,after:=af,guard:=none} d a r T k t H:=by
 have e:Ba a t {dst:=d,op:=op,type:=ty,pos:=ps,after:=af,guard:=some (j,want)}=match gd a t j with
  |some (.bool b)=>some (b==want)
  |some (.tuple [])=>some false
  |_=>none:=rfl
 have hf:∀t,(match Jc P pol C fn fr a r (Z5 t d nov) H with
  |some (t',H',T)=>some (t',H',FP.quiet::T)
  |none=>none).bind (fun x=>if okT (Region.before a) (loud (T.reverse++x.2.2))=true then U P pol C L fn fr k .normal x.1 x.2.1 else none)=U P pol C L fn fr (.opsT a r (.quiet::T)::k) .normal (Z5 t d nov) H:=by
  intro t;simp only[U];cases Jc P pol C fn fr a r (Z5 t d nov) H with
  |none=>rfl
  |some y=>simp only[Zf4,Zgf,Zgg,List.singleton_append]
 cases hg:gd a t j with
 |none=>simp only[U,Jc,e,hg,UGT];rfl
 |some v=>
  rw[hg] at e;cases v with
  |bool b=>
   by_cases hb:b=want
   . subst hb;have e' :Ba a t {dst:=d,op:=op,type:=ty,pos:=ps,after:=af,guard:=some (j,b)}=some true:=by rw[e];simp
     rw[Qlr e'];simp only[UGT,if_true];rw[Qlr rfl];rfl
   . have e' :Ba a t {dst:=d,op:=op,type:=ty,pos:=ps,after:=af,guard:=some (j,want)}=some false:=by rw[e];simp[hb]
     simp only[UGT,hb,if_false];rw[<-hf t];simp only[U,Jc,e'];rfl
  |tuple l=>
   cases l with
   |nil=>
    simp only[UGT];rw[<-hf t];simp only[U,Jc,e];rfl
   |cons x l=>simp only[U,Jc,e,UGT];rfl
  |_=>simp only[U,Jc,e,UGT];rfl
theorem Qxb(h:okT (Region.before a) (loud T.reverse)=true):U P pol C L fn fr (.opsT a [] T::k) .normal t H=U P pol C L fn fr k .normal t H:=by rw[Qyp,if_pos h]
end
theorem W.opsT{P:Program}{pol:Pol}{C:Call}{L:Yu->Qas}{fn fr:Nat}{t:List V}{H:Qg}{a:Array Oper}{T:List FP}{k:List It}{Q:Ex->List V->Qg->Prop}
 (h:okT (Region.before a) (loud T.reverse)=true)(h2:W (U P pol C L fn fr k .normal t H) Q):W (U P pol C L fn fr (.opsT a [] T::k) .normal t H) Q:=by
 rw[Qxb h];exact h2
theorem Qup(H G:Qg)(i s:Nat):Qd (H++G) (H.length+i) s=Qd G i s:=by unfold Qd;rw[Zfz (by omega),Nat.add_sub_cancel_left]
theorem Ql1(H G:Qg)(s:Nat):Qd (H++G) H.length s=Qd G 0 s:=Qup H G 0 s
theorem Qnx(H G:Qg){f:Nat}(h:f<H.length)(s:Nat):Qd (H++G) f s=Qd H f s:=by unfold Qd;rw[Zfy h]
theorem Q0v(F:Frame)(G:Qg)(s:Nat):Qd (F::G) 0 s=Qa4 F s:=rfl
theorem Q1j(F:Frame)(G:Qg)(i s:Nat):Qd (F::G) (i+1) s=Qd G i s:=rfl
theorem Qph{α:Type}(f:α->α):∀(H G:List α) (i:Nat),(H++G).modify (H.length+i) f=H++G.modify i f
 |[],G,i=>by simp
 |x::H,G,i=>by
  rw[Zgh,show(x::H).length+i=(H.length+i)+1 by simp;omega,List.modify_succ_cons,Qph f H G i,Zgh]
theorem Qvl(H G:Qg)(i s:Nat)(o:O):Qs (H++G) (H.length+i) s o=H++Qs G i s o:=by unfold Qs;exact Qph _ H G i
theorem Q16(H G:Qg)(s:Nat)(o:O):Qs (H++G) H.length s o=H++Qs G 0 s o:=Qvl H G 0 s o
theorem Q2m(F:Frame)(G:Qg)(s:Nat)(o:O):Qs (F::G) 0 s o=Qae F s o::G:=rfl
theorem Q0m(F:Frame)(G:Qg)(i s:Nat)(o:O):Qs (F::G) (i+1) s o=F::Qs G i s o:=rfl
def WF(H:Qg):Prop:=Jj (fun f _=>Nat.ble H.length f) H=true
theorem Qrf{H G:Qg}{v:V}(hv:v.refs (fun f _=>Nat.ble H.length f)=false)(hw:WF H):Yb H.length v (H++G)=H:=by
 unfold Yb;have e:(H++G).take H.length=H:=by simp
 rw[hv,e];unfold WF at hw;rw[hw];rfl
theorem Ym{b:Nat}{H:Qg}{v:V}(hv:v.refs (fun f _=>Nat.ble b f)=true):Yb b v H=H:=by unfold Yb;rw[hv];rfl
section
variable {P : Program} {t t2 e e2 : TypeId} {n by_ m : Nat} {z cs : List V} {x : V} {g : Get} {mt : Nat -> Bool} {fr : Nat} {dst : Option Nat} {d : Nat}
theorem Qd4(hu:P.underlying t=some (.slice e))(hs:sz P e=some n)(hb:byt P e=some by_)(hz:zeroCells P e=some z)(hzl:z.length=n)(ht:P.underlying t2=some (.slice e2)){s:V}(hsl:Qst s=true)
 (hx:Z3 g n x=some (cs,0)):Yi P mt fr g dst t t2 s x=some (.val s none):=by
 simp only[Yi,hu,hs,hb,hz,hzl,if_true,Qcj,ht,hx,hsl]
theorem Qaj(hu:P.underlying t=some (.slice e))(hs:sz P e=some n)(hb:byt P e=some by_)(hz:zeroCells P e=some z)(hzl:z.length=n)(ht:P.underlying t2=some (.slice e2))
 (hx:Z3 g n x=some (cs,m))(hm:0<m)(hr:Qa1 m by_=true):Yi P mt fr g dst t t2 .nS x=grown mt g fr dst cs cs m n:=by
 obtain⟨m,rfl⟩:∃k,m=k+1:=⟨m-1,by omega⟩;simp only[Yi,hu,hs,hb,hz,hzl,if_true,Qcj,ht,hx,appendTo,hr]
theorem Q45{chk:List V}(hd:mt d=false)(h3:mt (Qi9 d)=false)(h4:mt (Qlv d)=true)(hp:Zt cs=true):grown mt g fr (some d) cs chk m n=some (.val (.iS cs m false) none):=by simp only[grown,hd,h3,h4,Ze7,if_false,if_true,hp]
theorem Qde{chk:List V}(hd:mt d=false)(h3:mt (Qi9 d)=true)(hsc:cs.all V.scalar=true)(hl:cs.length=m*n)(hg:g fr d=none):grown mt g fr (some d) cs chk m n=some (.val (.mg fr d m n) (some (fr,d,.mgrow cs m))):=by simp only[grown,hd,h3,Ze7,if_false,if_true,hsc,hl,and_self,new,hg]
theorem Qjt{c0:List V}{f s k:Nat}(hu:P.underlying t=some (.slice e))(hs:sz P e=some n)(hb:byt P e=some by_)(hz:zeroCells P e=some z)(hzl:z.length=n)(ht:P.underlying t2=some (.slice e2))
 (hx:Z3 g n x=some (cs,m))(hm:0<m)(hr:Qa1 (k+m) by_=true)(hsc:cs.all V.scalar=true)(hl:cs.length=m*n)(hg:g f s=some (.mgrow c0 k))(hl0:c0.length=k*n):
 Yi P mt fr g dst t t2 (.mg f s k n) x=some (.val (.mg f s (k+m) n) (some (f,s,.mgrow (c0++cs) (k+m)))):=by
 obtain⟨m,rfl⟩:∃k,m=k+1:=⟨m-1,by omega⟩;simp only[Yi,hu,hs,hb,hz,hzl,if_true,Qcj,ht,hx,appendTo,hr,hsc,hg,hl,hl0,and_self]
end
theorem Qu{P:Program}{mt:Nat->Bool}{fr:Nat}{g:Get}{d:Option Nat}{t t2:TypeId}{s x:V}:builtinV P mt fr g d .append #[t,t2] [s,x]=Yi P mt fr g d t t2 s x:=rfl
theorem Qzt{P:Program}{mt:Nat->Bool}{fr:Nat}{g:Get}{d:Option Nat}{t t2:TypeId}{s x:V}:builtinV P mt fr g d .copy #[t,t2] [s,x]=Qgq P g t s x:=rfl
theorem Jb{m by_:Nat}(h:m*by_<=35184372088832)(h2:m<=35184372088832):Qa1 m by_=true:=by simp[Qa1,h,h2]
theorem Qed(l:List UInt8):(Qp l).all V.scalar=true:=by simp[Qp,V.scalar]
theorem Qk2(g:Get)(n:Nat):∀l:List UInt8,frzL (frz g (n+1)) (Qp l)=some (Qp l)
 |[]=>rfl
 |b::l=>by
  have:=Qk2 g n l;simp only[Qp,Zfn] at this⊢;exact Qt rfl this
theorem Q0k{g:Get}{f s o len m:Nat}{cap:Option Nat}{xs:List V}{l:List UInt8}(hg:g f s=some (.cells xs))(hx:(xs.drop o).take len=Qp l)(hl:o+len<=xs.length):
 frz g (m+2) (.mS f s o len cap 1)=some (.iS (Qp l) len (cap==some len)):=by
 show(match g f s with
  |some (.cells xs)=>if o+len*1<=xs.length then(frzL (frz g (m+1)) ((xs.drop o).take (len*1))).map fun cs=>V.iS cs len (cap==some len) else none
  |_=>none)=_
 rw[hg];simp only[Zgd,if_pos hl,hx,Qk2,Ze4]
section
variable {P : Program} {u e : TypeId} {g : Get}
end
theorem Qq1(s:Nat)(o o' :O):∀F:Frame,Qae (Qae F s o) s o' =Qae F s o'
 |[]=>by simp[Qae]
 |(k,p)::r=>by
  simp only[Qae];by_cases h:s=k
  . simp[h,Qae]
  . simp only[h,if_false];by_cases h2:s<k
    . simp[h2,Qae]
    . simp only[h2,if_false,Qae,h,Qq1 s o o' r]
theorem Qcm(H:Qg)(f s:Nat)(o o' :O):Qs (Qs H f s o) f s o' =Qs H f s o' :=by unfold Qs;rw[List.modify_modify_eq];congr 1;funext F;exact Qq1 s o o' F
theorem Q1m{k:IntKind}{n:Int}:(V.int k n).cells=some [.int k n]:=rfl
theorem Qyv{b:Bool}:(V.bool b).cells=some [.bool b]:=rfl
theorem Q1o{s:List UInt8}:(V.str s).cells=some [.str s]:=rfl
theorem Qs9:V.nP.cells=some [.nP]:=rfl
theorem Q2e{f s o:Nat}:(V.ptr f s o).cells=some [.ptr f s o]:=rfl
theorem Qx3{c:List V}{o:Nat}:(V.iptr c o).cells=some [.iptr c o]:=rfl
theorem Qp3:V.nS.cells=some [.nS]:=rfl
theorem Qsx{c:List V}{n:Nat}{f:Bool}:(V.iS c n f).cells=some [.iS c n f]:=rfl
theorem Qs4{f s:Nat}{c:List V}{n e:Nat}:(V.gS f s c n e).cells=some [.gS f s c n e]:=rfl
theorem Qs2{f s o n e:Nat}{c:Option Nat}:(V.mS f s o n c e).cells=some [.mS f s o n c e]:=rfl
theorem Qts:V.nM.cells=some [.nM]:=rfl
theorem Q0o{f s:Nat}:(V.map f s).cells=some [.map f s]:=rfl
theorem Qw0{f:Fn}{a b:List V}:(V.func f a b).cells=some [.func f a b]:=rfl
theorem Qqk:V.nF.cells=some [.nF]:=rfl
theorem Qql:V.nI.cells=some [.nI]:=rfl
theorem Qyu{t:TypeId}{v:V}:(V.face t v).cells=some [.face t v]:=rfl
theorem gb{l:List UInt8}{i:Nat}(h:i<l.length):(Qp l)[(i:Int).toNat*1]?=some (.int .u8 l[i].toNat):=by simp[Qhr,h]
theorem gi{l:List Int}{i:Nat}(h:i<l.length):(Jm l)[(i:Int).toNat*1]?=some (.int .i64 l[i]):=by simp[Qyf,h]
theorem wrap_i64{n:Int}(h1: -9223372036854775808<=n)(h2:n<=9223372036854775807):(IntKind.i64).wrap n=n:=by rw[IntKind.wrap_i64];omega
section
variable {P : Program} {u e : TypeId} {g : Get}
theorem Q26(hu:P.underlying u=some (.slice e)){q:Nat}(hs:sz P e=some q){f s o len c:Nat}{w:Nat}{k:IntKind}(h:w<=len)(hc:len<=c):
 ∀g,Qci P g u (.mS f s o len (some c) q) (some (.int k w)) none none=some (.mS f s (if c=w then o else o+w*q) (len-w) (some (c-w)) q):=by
 intro g;simp only[Qci,Qgf,hu,hs,if_true,Qsn,Qfg,Zf8,Zgi];rw[if_pos ⟨by omega,by omega,by omega,by omega,by omega,by omega,by simp⟩];simp
theorem Qsw(xs m:List UInt8)(o:Nat):splice (Qp xs) o (Qp m)=Qp (xs.take o++m++xs.drop (o+m.length)):=by simp[splice,Qp]
theorem Qn4(hu:P.underlying u=some (.slice e))(hs:sz P e=some 1){f s o n:Nat}{cap:Option Nat}{xs m:List UInt8}{v:V}(hg:g f s=some (.cells (Qp xs)))(ho:o+n<=xs.length)(hv:Z3 g 1 v=some (Qp m,m.length))(hns:∀l,v≠ .str l):
 Qgq P g u (.mS f s o n cap 1) v=some (.val (.int .i64 (min m.length n:Nat)) (some (f,s,.cells (Qp (xs.take o++m.take (min m.length n)++xs.drop (o+min m.length n)))))):=by
 have e1:Qf4 g 1 v=some (Qp m,m.length):=by
  cases v with
  |str l=>exact absurd rfl (hns l)
  |_=>exact hv
 have e2:((Qp m).take (min m.length n*1)).all V.scalar=true:=by rw[Qfn];exact Qed _
 simp only[Qgq,hu,hs,e1,Qgv,if_true,hg,Zgd,Ja];rw[Zgd] at e2;rw[if_pos ⟨ho,e2⟩,Qfn,Qsw];simp only[Zf9];rw[show min (min m.length n) m.length=min m.length n by omega]
end
def FP.kind:FP->Nat
 | .quiet=>0
 | .ids _ []=>1
 | .peek=>1
 |_=>2
def okK(bef:Array Nat):List (Nat×Nat)->Bool
 |[]=>true
 |(a,i)::r=>r.all (fun(b,j)=>(bef.getD j 0).testBit i||(Nat.ble a 1&&Nat.ble b 1))&&okK bef r
theorem Qov:∀a b:FP,Nat.ble a.kind 1=true->Nat.ble b.kind 1=true->a.indep b=true
 | .quiet,_,_,_=>rfl
 | .ids _ [],.quiet,_,_=>rfl
 | .ids _ (_::_),.quiet,_,_=>rfl
 | .all,.quiet,_,_=>rfl
 | .peek,.quiet,_,_=>rfl
 | .peek,.peek,_,_=>rfl
 | .peek,.ids _ [],_,_=>rfl
 | .ids _ [],.peek,_,_=>rfl
 | .ids _ [],.ids _ [],_,_=>rfl
 | .ids _ (_::_),_,h,_=>by cases h
 | .all,_,h,_=>by cases h
 |_,.ids _ (_::_),_,h=>by cases h
 | .side _ _,_,h,_=>by cases h
 | .fresh _,_,h,_=>by cases h
 |_,.all,_,h=>by cases h
 |_,.side _ _,_,h=>by cases h
 |_,.fresh _,_,h=>by cases h
theorem Qpe(bef:Array Nat):∀T:List (FP×Nat),okK bef (T.map fun x=>(x.1.kind,x.2))=true->okT bef T=true
 |[],_=>rfl
 |(a,i)::r,h=>by
  simp only[Zfn,okK,Zfr,Zf1] at h;simp only[okT,Zfr,Zf1];refine⟨fun x hx=>?_,Qpe bef r h.2⟩;have:=h.1 (x.1.kind,x.2) (Zfm.2 ⟨x,hx,rfl⟩);simp only[Zgj,Zfr] at this⊢;exact this.imp id fun⟨p,q⟩=>Qov _ _ p q
theorem W.opsK{P:Program}{pol:Pol}{C:Call}{L:Yu->Qas}{fn fr:Nat}{t:List V}{H:Qg}{a:Array Oper}{T:List FP}{k:List It}{Q:Ex->List V->Qg->Prop}
 (h:okK (Region.before a) ((loud T.reverse).map fun x=>(x.1.kind,x.2))=true)(h2:W (U P pol C L fn fr k .normal t H) Q):W (U P pol C L fn fr (.opsT a [] T::k) .normal t H) Q:=
 W.opsT (Qpe _ _ h) h2
theorem Ql.notStr{esz n:Nat}{v:V}{cells:List V}(h:Ql esz v cells n)(l:List UInt8):v≠ .str l:=by obtain⟨_,⟨rfl,_⟩|⟨f,rfl⟩⟩:=h<;>simp
section
variable {P : Program} {t e : TypeId} {n : Nat} {y : V}
theorem Qiq(he:P.underlying e=some (.int .u8)):∀(ys:List (List V)),(∀y∈ys,Xc P n e y)->∃l:List UInt8,ys.flatten=Qp l/\l.length=ys.length
 |[],_=>⟨[],rfl,rfl⟩
 |y::ys,h=>by
  obtain⟨l,h1,h2⟩:=Qiq he ys fun z hz=>h z (by simp[hz]);have hy:=h y (by simp);cases n with
  |zero=>exact hy.elim
  |succ n=>
   unfold Xc at hy;rw[he] at hy;obtain⟨m,rfl,hm⟩:=hy;have hr:0<=m/\m<=255:=by simpa [Lit.wf,IntKind.min,IntKind.max,IntKind.signed,IntKind.bits] using hm
   refine⟨UInt8.ofNat m.toNat::l,?_,by simp[h2]⟩;simp only[List.flatten_cons,h1,Qp,Zfn,List.singleton_append,List.cons.injEq,and_true,V.int.injEq,true_and];have:(UInt8.ofNat m.toNat).toNat=m.toNat:=by simp[UInt8.toNat_ofNat'];omega
   rw[this];omega
end
def itF:Code->Option (Option Nat×List It)
 | .region _ ops false=>(match ops.toList with
   |o::r=>some (o.dst,[.ops ops r])
   |[]=>none)
 | .seq a b=>(match itF a with
   |some (d,k)=>some (d,k++[.code b])
   |none=>none)
 |_=>none
section
variable {P : Program} {pol : Pol} {C : Call} {L : Yu -> Qas} {fn fr : Nat} {t : List V} {H : Qg} {Q : Ex -> List V -> Qg -> Prop}
theorem Kf:∀(k k' :List It) (e:Ex) (t:List V) (H:Qg),U P pol C L fn fr (k++k') e t H=(U P pol C L fn fr k e t H).bind fun x=>U P pol C L fn fr k' x.1 x.2.1 x.2.2
 |[],_,_,_,_=>rfl
 | .code c::k,k',e,t,H=>by
   cases e with
   |normal=>
    simp only[Zgh,U];cases Jh P pol C L fn fr c t H with
    |none=>rfl
    |some x=>exact Kf k k' x.1 x.2.1 x.2.2
   |exit i=>exact Kf k k' _ t H
   |ret=>exact Kf k k' _ t H
   |panic v=>exact Kf k k' _ t H
 | .ops a l::k,k',e,t,H=>by
   cases e with
   |normal=>
    simp only[Zgh,U];cases Yr P pol C fn fr a l t H with
    |none=>rfl
    |some x=>exact Kf k k' x.1 x.2.1 x.2.2
   |exit i=>exact Kf k k' _ t H
   |ret=>exact Kf k k' _ t H
   |panic v=>exact Kf k k' _ t H
 | .opsT a l T::k,k',e,t,H=>by
   cases e with
   |normal=>
    simp only[Zgh,U];cases Jc P pol C fn fr a l t H with
    |none=>rfl
    |some x=>
     simp only[Zf4];split
     . exact Kf k k' _ _ _
     . rfl
   |exit i=>exact Kf k k' _ t H
   |ret=>exact Kf k k' _ t H
   |panic v=>exact Kf k k' _ t H
 | .block id::k,k',e,t,H=>by
   cases e with
   |exit i=>
    simp only[Zgh,U];split
    . exact Kf k k' _ t H
    . exact Kf k k' _ t H
   |normal=>exact Kf k k' _ t H
   |ret=>exact Kf k k' _ t H
   |panic v=>exact Kf k k' _ t H
theorem Q3l{v:V}{w:Option (Nat×Nat×O)}:∀{c:Code} {d:Option Nat} {k:List It},itF c=some (d,k)->∀(t:List V) (H:Qg),J7 P pol C L fn fr c v w t H=U P pol C L fn fr k .normal (Z5 t d v) (wr H w):=by
 intro c
 induction c with
 |region id ops draw=>
  intro d k h t H;cases draw with
  |true=>cases h
  |false=>
   simp only[itF] at h;simp only[J7];cases ho:ops.toList with
   |nil=>rw[ho] at h;cases h
   |cons o r=>
    rw[ho] at h;cases h;simp only[U];cases Yr P pol C fn fr ops r (Z5 t o.dst v) (wr H w) with
    |none=>rfl
    |some x=>rfl
 |seq a b iha ihb=>
  intro d k h t H;simp only[itF] at h;cases ha:itF a with
  |none=>rw[ha] at h;cases h
  |some x=>
   obtain⟨d',k'⟩:=x;rw[ha] at h;cases h;simp only[J7,iha ha,Kf];cases U P pol C L fn fr k' .normal (Z5 t d v) (wr H w) with
   |none=>rfl
   |some x=>
    obtain⟨e,t1,H1⟩:=x;cases e with
    |normal=>simp only[Zf4,Qse]
    |exit i=>rfl
    |ret=>rfl
    |panic v=>rfl
 |_=>intro d k h;cases h
theorem Q25{α:Type}{b:Code}{x:Operand}{d:Option Nat}{k:List It}(hn:Ki b=some x)(hi:itF b=some (d,k))(R:Ex×List V×Qg)(I:α->List V->Qg->Prop)(m:α->Nat)
 (step:∀a t H,I a t H->∃t1 H1 cs,forget pol fn fr (Jl b) t H=some (t1,H1)/\Qbh (Qd H1) (rho t1 x)=some cs/\
   ∀c∈cs,W (U P pol C Yc fn fr k .normal (Z5 t1 d c.1) (wr H1 c.2)) fun e t2 H2=>match e with
    | .normal=>∃a',I a' t2 H2/\m a' <m a
    |e=>R=(e,t2,H2))(a:α)(h:I a t H):Yc (round P pol C Yc fn fr b) t H=some R:=by
 induction hm:m a using Nat.strongRecOn generalizing a t H with
 |ind n ih=>
  subst hm;obtain⟨t1,H1,cs,h1,h2,h3⟩:=step a t H h;rw[Quz];have hr:round P pol C Yc fn fr b t H=cs.map fun c=>U P pol C Yc fn fr k .normal (Z5 t1 d c.1) (wr H1 c.2):=by simp only[round,h1,hn,h2,Q3l hi]
  rw[hr];refine Qfl (by simpa using Q4o h2) fun y hy=>?_;rw[Zfp] at hy;obtain⟨c,hc,rfl⟩:=Zfm.1 hy;obtain⟨e,t2,H2,q1,q2⟩:=(h3 c hc).out;simp only[Function.comp,q1];cases e with
  |normal=>
   obtain⟨a',q3,q4⟩:=q2;exact ih _ q4 a' q3 rfl
  |exit i=>exact congrArg some q2.symm
  |ret=>exact congrArg some q2.symm
  |panic v=>exact congrArg some q2.symm
theorem W.range{α:Type}{b:Code}{x:Operand}{d:Option Nat}{k:List It}(hn:Ki b=some x)(hi:itF b=some (d,k))(R:Ex×List V×Qg)(I:α->List V->Qg->Prop)(m:α->Nat)
 (step:∀a t H,I a t H->∃t1 H1 cs,forget pol fn fr (Jl b) t H=some (t1,H1)/\Qbh (Qd H1) (rho t1 x)=some cs/\
   ∀c∈cs,W (U P pol C Yc fn fr k .normal (Z5 t1 d c.1) (wr H1 c.2)) fun e t2 H2=>match e with
    | .normal=>∃a',I a' t2 H2/\m a' <m a
    |e=>R=(e,t2,H2))(a:α)(h:I a t H)(hQ:Q R.1 R.2.1 R.2.2):W (Yc (round P pol C Yc fn fr b) t H) Q:=by
 rw[Q25 hn hi R I m step a h];exact hQ
theorem Qly{g:Get}{f s:Nat}{m:Nat×Nat}{since stepped clk:Nat}{seen:List Nat}{es:List (V×V)}{bs:List Nat}(h1:g f s=some (.iter (some m) since seen stepped))(h2:g m.1 m.2=some (.map es bs clk))
 (h3:∀b∈bs,b<since)(h4:since<=stepped):∃cs,Qbh g (.ptr f s 0)=some cs/\∀c∈cs,(Qc5 seen es bs=[]/\c=(.tuple [.bool false],some (f,s,.dead)))\/
   ∃e∈Qc5 seen es bs,c=(.tuple [.bool true,e.1.1,e.1.2],some (f,s,.iter (some m) since (seen++[e.2]) clk)):=by
 have hall:(bs.all (fun b=>decide (b<since))&&decide (since<=stepped))=true:=by rw[Zfr,Zf1];exact⟨fun b hb=>Zig (h3 b hb),Zig h4⟩
 simp only[Qbh,h1,h2,hall,if_true];cases hl:Qc5 seen es bs with
 |nil=>exact⟨_,rfl,fun c hc=> .inl ⟨rfl,Zfx.1 hc⟩⟩
 |cons y l=>
  refine⟨_,rfl,fun c hc=> .inr ?_⟩;obtain⟨e,he,rfl⟩:=Zfm.1 hc;exact⟨e,he,rfl⟩
end
def Xo(P:Program)(t:TypeId)(i:Nat):Option (Nat×TypeId):=
 match P.underlying t with
 |some (.struct fs)=>(match fs[i]? with
  |some f=>(match sz P f.type with
   |some n=>if n=0 then none else some (f.offset,f.type)
   |none=>none)
  |none=>none)
 |_=>none
def plOf(P:Program)(t:TypeId):Option (List (Nat×Nat)):=
 match P.underlying t with
 |some (.struct fs)=>Qp8 P fs.toList
 |_=>none
def ffOf(P:Program)(t:TypeId)(i:Nat):Option (Nat×TypeId):=
 match P.underlying t with
 |some (.struct fs)=>(match fs[i]? with
  |some f=>some (f.offset,f.type)
  |none=>none)
 |_=>none
def faV(off:Nat):V->Option V
 | .ptr a b o=>some (.ptr a b (o+off))
 | .iptr cs o=>some (.iptr cs (o+off))
 | .rptr cs o=>some (.rptr cs (o+off))
 | .mp f s o n=>some (.mp f s (o+off) n)
 |_=>none
def faO:Option (Nat×TypeId)->V->Option V
 |some x,v=>faV x.1 v
 |none,_=>none
def fvO(P:Program):Option (Nat×TypeId)->V->Option V
 |some x,.agg cs=>Qec P x.2 cs x.1
 |_,_=>none
section
variable {P : Program} {mt : Nat -> Bool} {fr : Nat} {g : Get} {r : Operand -> V} {d : Option Nat} {ty u : TypeId} {ps : String} {af : Array Edge} {gd : Option (Nat × Bool)} {x : Operand}
theorem ev_fa{t:TypeId}{i:Nat}:K0 P mt fr g r {dst:=d,op:= .fieldAddr t x i,type:=ty,pos:=ps,after:=af,guard:=gd}=(faO (Xo P t i) (r x)).map fun v=> .val v none:=by
 unfold Xo;simp only[K0];cases P.underlying t with
 |none=>rfl
 |some dd=>
  cases dd with
  |struct fs=>
   simp only;cases fs[i]? with
   |none=>rfl
   |some f=>
    simp only;cases sz P f.type with
    |none=>rfl
    |some n=>
     simp only;by_cases h0:n=0
     . simp only[h0,if_true];rfl
     . simp only[h0,if_false];cases r x<;>rfl
  |_=>rfl
theorem Q5w{t:TypeId}{i:Nat}:K0 P mt fr g r {dst:=d,op:= .field t x i,type:=ty,pos:=ps,after:=af,guard:=gd}=(fvO P (ffOf P t i) (r x)).map fun v=> .val v none:=by
 unfold ffOf;simp only[K0];cases P.underlying t with
 |none=>rfl
 |some dd=>
  cases dd with
  |struct fs=>
   cases r x<;>simp only<;>cases fs[i]?<;>rfl
  |_=>rfl
theorem Qim{t:TypeId}{z:List V}{ps:List (Nat×Nat)}(hz:zeroCells P t=some z)(hp:plOf P t=some ps)(parts:List (Nat×V)):Qac P t parts=(Bn (fun i=>ps[i]?) z parts).map .agg:=by
 unfold plOf at hp;unfold Qac;rw[hz];split at hp
 case h_2=>cases hp
 rename_i fs hu;rw[hu];simp only[hp]
theorem fa_ptr{off a b o:Nat}:faV off (.ptr a b o)=some (.ptr a b (o+off)):=rfl
theorem Zm{off f s o n:Nat}:faV off (.mp f s o n)=some (.mp f s (o+off) n):=rfl
theorem Qzx{off o:Nat}{cs:List V}:faV off (.iptr cs o)=some (.iptr cs (o+off)):=rfl
theorem Q35{off:Nat}{t:TypeId}{v:V}:faO (some (off,t)) v=faV off v:=rfl
theorem fv_agg{t:TypeId}{off:Nat}{cs:List V}:fvO P (some (off,t)) (.agg cs)=Qec P t cs off:=rfl
end
def ldO(P:Program)(t:TypeId)(o:Nat):Option O->Option V
 |some (.cells xs)=>Zf P t xs o
 |_=>none
def ldM(P:Program)(t:TypeId)(o n:Nat):Option O->Option V
 |some (.mgrow xs k)=>if k=n then Zf P t xs o else none
 |_=>none
def ldV(P:Program)(t:TypeId)(g:Get):V->Option V
 | .ptr f s o=>ldO P t o (g f s)
 | .iptr cs o=>Zf P t cs o
 | .rptr cs o=>Zf P t cs o
 | .mp f s o n=>ldM P t o n (g f s)
 |_=>none
def stO(n f s o:Nat)(cs:List V):Option O->Option Yv
 |some (.cells xs)=>if cs.length=n/\o+n<=xs.length then some (.val .bad (some (f,s,.cells (splice xs o cs)))) else none
 |_=>none
def stM(n f s o m:Nat)(cs:List V):Option O->Option Yv
 |some (.mgrow xs k)=>if k=m/\cs.length=n/\o+n<=xs.length then some (.val .bad (some (f,s,.mgrow (splice xs o cs) k))) else none
 |_=>none
def stV(g:Get):Option Nat->V->Option (List V)->Option Yv
 |some n,.ptr f s o,some cs=>stO n f s o cs (g f s)
 |some n,.mp f s o m,some cs=>stM n f s o m cs (g f s)
 |_,_,_=>none
section
variable {P : Program} {mt : Nat -> Bool} {fr : Nat} {g : Get} {r : Operand -> V} {d : Option Nat} {ty u : TypeId} {ps : String} {af : Array Edge} {gd : Option (Nat × Bool)} {x a : Operand}
theorem Q7g{t:TypeId}:K0 P mt fr g r {dst:=d,op:= .load t a,type:=ty,pos:=ps,after:=af,guard:=gd}=(ldV P t g (r a)).map fun v=> .val v none:=by
 simp only[K0];cases r a with
 |ptr f s o=>
  simp only[ldV];cases g f s with
  |none=>rfl
  |some q=>cases q<;>rfl
 |mp f s o n=>
  simp only[ldV];cases g f s with
  |none=>rfl
  |some q=>cases q<;>first|rfl|(simp only[ldM];split<;>rfl)
 |_=>rfl
theorem Q3n{t:TypeId}:K0 P mt fr g r {dst:=d,op:= .store t a x,type:=ty,pos:=ps,after:=af,guard:=gd}=stV g (sz P t) (r a) (r x).cells:=by
 simp only[K0];cases sz P t with
 |none=>cases r a<;>first|rfl|(cases(r x).cells<;>rfl)
 |some n=>
  cases r a with
  |ptr f s o=>
   cases(r x).cells with
   |none=>rfl
   |some cs=>
    simp only[stV];cases g f s with
    |none=>rfl
    |some q=>cases q<;>rfl
  |mp f s o m=>
   cases(r x).cells with
   |none=>rfl
   |some cs=>
    simp only[stV];cases g f s with
    |none=>rfl
    |some q=>cases q<;>rfl
  |_=>rfl
theorem Q3{t:TypeId}{f s o n:Nat}:ldV P t g (.mp f s o n)=ldM P t o n (g f s):=rfl
theorem Qh{t:TypeId}{o n:Nat}{xs:List V}:ldM P t o n (some (.mgrow xs n))=Zf P t xs o:=by simp only[ldM,if_true]
theorem Q4{n f s o m:Nat}{cs:List V}:stV g (some n) (.mp f s o m) (some cs)=stM n f s o m cs (g f s):=rfl
theorem Qi{n f s o m:Nat}{cs xs:List V}:stM n f s o m cs (some (.mgrow xs m))=if cs.length=n/\o+n<=xs.length then some (.val .bad (some (f,s,.mgrow (splice xs o cs) m))) else none:=by simp only[stM,true_and]
theorem Qy{f s n e:Nat}:(V.mg f s n e).scalar=true:=rfl
theorem ld_ptr{t:TypeId}{f s o:Nat}:ldV P t g (.ptr f s o)=ldO P t o (g f s):=rfl
theorem Qzk{t:TypeId}{o:Nat}{cs:List V}:ldV P t g (.iptr cs o)=Zf P t cs o:=rfl
theorem Q00{t:TypeId}{o:Nat}{xs:List V}:ldO P t o (some (.cells xs))=Zf P t xs o:=rfl
theorem st_ptr{n f s o:Nat}{cs:List V}:stV g (some n) (.ptr f s o) (some cs)=stO n f s o cs (g f s):=rfl
theorem B8{n f s o:Nat}{cs xs:List V}:stO n f s o cs (some (.cells xs))=if cs.length=n/\o+n<=xs.length then some (.val .bad (some (f,s,.cells (splice xs o cs)))) else none:=rfl
theorem Qit{t:TypeId}{dd:TypeDesc}{n:Nat}(h:P.underlying t=some dd)(hs:sz P t=some n)(ha:Qsb dd=true)(cs:List V)(o:Nat):
 Zf P t cs o=if o+n<=cs.length then some (.agg ((cs.drop o).take n)) else none:=by
 simp only[Zf,h,hs,ha,if_true]
theorem Qlj{cs:List V}:(V.agg cs).cells=if cs.all V.scalar then some cs else none:=rfl
theorem Q7w{b:Bool}:(V.bool b).scalar=true:=rfl
theorem sc_int{k:IntKind}{n:Int}:(V.int k n).scalar=true:=rfl
theorem sc_str{s:List UInt8}:(V.str s).scalar=true:=rfl
theorem Q12:V.nP.scalar=true:=rfl
theorem sc_ptr{f s o:Nat}:(V.ptr f s o).scalar=true:=rfl
theorem Q6b{cs:List V}{o:Nat}:(V.iptr cs o).scalar=true:=rfl
theorem Quu:V.nS.scalar=true:=rfl
theorem Q1h{cs:List V}{n:Nat}{b:Bool}:(V.iS cs n b).scalar=true:=rfl
theorem Qck{f s o n:Nat}{c:Option Nat}{e:Nat}:(V.mS f s o n c e).scalar=true:=rfl
theorem Qn{f s n e:Nat}{cs:List V}:(V.gS f s cs n e).scalar=true:=rfl
theorem Q1y:V.nM.scalar=true:=rfl
theorem sc_map{f s:Nat}:(V.map f s).scalar=true:=rfl
theorem Q6i{f:Fn}{a b:List V}:(V.func f a b).scalar=true:=rfl
end
theorem Qzz{b:Bool}:unV .not (.bool b)=some (.bool !b):=rfl
abbrev walk:=And.intro @u_seq<|And.intro @Q3y<|And.intro @Q7f<|And.intro @w_op<|And.intro @us_val<|And.intro @Q7u<|And.intro @Q5d<|And.intro @uc_ret<|And.intro @uc_pan<|And.intro @w_cond<|And.intro @Q54<|And.intro @Q4w<|And.intro @w_opT<|And.intro @Q6s<|And.intro @Q7v<|And.intro @Q33<|And.intro @Q6w<|And.intro @Q2q<|And.intro @ugt_tt<|And.intro @ugt_ff<|And.intro @ugt_tf<|And.intro @ugt_ft<|And.intro @u_draw<|And.intro @Q7z<|And.intro @ug_tt<|And.intro @ug_ff<|And.intro @ug_tf<|And.intro @ug_ft<|And.intro @ug_no<|And.intro @ugt_no<|And.intro @w_loop<|And.intro @Q6t<|And.intro @Q05<|And.intro @u_skip<|And.intro @u_ret<|And.intro @u_exit<|And.intro @u_nil<|And.intro @Qx1<|And.intro @Qu2<|And.intro @Qs7<|And.intro @Qpo<|And.intro @Qtu<|And.intro @Qq0<|And.intro @Qtl<|And.intro @b_add<|And.intro @b_sub<|And.intro @b_mul<|And.intro @b_eql<|And.intro @b_neq<|And.intro @b_lss<|And.intro @b_leq<|And.intro @b_gtr<|And.intro @b_geq<|And.intro @b_sadd<|And.intro @b_seql<|And.intro @b_sneq<|And.intro @oc_int<|And.intro @Q60<|And.intro @oc_str<|And.intro @Qvs<|And.intro @Q1e<|And.intro @Q2k<|And.intro @Qxg<|And.intro @Qxc<|And.intro @bi_len<|And.intro @bi_max<|And.intro @bi_min<|And.intro @mx_nil<|And.intro @mx_one<|And.intro @Qwt<|And.intro @Qsp<|And.intro @Q65<|And.intro @Q5z<| @Q7x
abbrev walkM:=And.intro @Qzz<|And.intro @Q35<|And.intro @fa_ptr<|And.intro @Qzx<|And.intro @fv_agg<|And.intro @ld_ptr<|And.intro @Qzk<|And.intro @Q00<|And.intro @st_ptr<|And.intro @Qlj<|And.intro @Q7w<|And.intro @sc_int<|And.intro @sc_str<|And.intro @Q12<|And.intro @sc_ptr<|And.intro @Q6b<|And.intro @Quu<|And.intro @Q1h<|And.intro @Qck<|And.intro @Qn<|And.intro @Q1y<|And.intro @sc_map<| @Q6i
abbrev walkB:=And.intro @Q1m<|And.intro @Qyv<|And.intro @Q1o<|And.intro @Qs9<|And.intro @Q2e<|And.intro @Qx3<|And.intro @Qp3<|And.intro @Qsx<|And.intro @Qs4<|And.intro @Qs2<|And.intro @Qts<|And.intro @Q0o<|And.intro @Qw0<|And.intro @Qqk<|And.intro @Qql<| @Qyu
abbrev walkL:=And.intro @List.getD_cons_zero.{0}<|And.intro @List.getD_cons_succ.{0}<|And.intro @List.set_cons_zero.{0}<|And.intro @List.set_cons_succ.{0}<|And.intro @List.map_cons.{0,0}<|And.intro @List.map_nil.{0,0}<|And.intro @Option.map_some.{0,0}<|And.intro @Option.map_none.{0,0}<|And.intro @Option.bind_some.{0,0}<|And.intro @Option.bind_none.{0,0}<|And.intro @List.length_nil.{0}<|And.intro @List.length_cons.{0}<|And.intro @List.nil_append.{0}<|And.intro @List.cons_append.{0}<|And.intro @List.append_nil.{0}<|And.intro @List.replicate_succ.{0}<|And.intro @List.replicate_zero.{0}<|And.intro @List.getElem?_cons_zero.{0}<|And.intro @List.getElem?_cons_succ.{0}<| @List.getElem?_toArray.{0}
section
variable {P : Program} {pol : Pol} {C : Call} {L : Yu -> Qas} {fn fr : Nat} {t : List V} {H : Qg} {d : Option Nat} {k : List It} {Q : Ex -> List V -> Qg -> Prop} {a : Array Oper} {r : List Oper} {T : List FP} {o : Oper}
end
abbrev ai{p q:Prop}(h:p)(k:q):p/\q:=⟨h,k⟩
abbrev walkC:=ai @decide_true<|ai @decide_false<|ai @eq_self.{1}<|ai @Bool.not_true<|ai @Bool.not_false<|ai @B8<|ai @List.all_cons.{0}<|ai @List.all_nil.{0}<|ai @Bool.and_self<|ai @Bool.and_true<|ai @Bool.false_eq_true<| @Q7t
abbrev Qc:=ai @ev_fa<|ai @Q5w<|ai @Q7g<| @Q3n
abbrev walkH:=ai @List.modify_zero_cons.{0}<|ai @List.modify_succ_cons.{0}<|ai @List.modify_cons.{0}<|ai @Nat.lt_irrefl<|ai @Nat.not_lt_zero<| @Nat.lt_add_one
abbrev walkE:=ai @Nat.one_ne_zero<|ai @and_self<|ai @and_true<|ai @true_and<|ai @List.take_zero.{0}<|ai @List.drop_succ_cons.{0}<|ai @List.drop_zero.{0}<|ai @List.take_succ_cons.{0}<|ai @List.replicate_one.{0}<|ai @List.drop_nil.{0}<|ai @List.take_nil.{0}<|ai @Nat.le_refl<|ai @Nat.zero_add<|ai @Nat.zero_mul<|ai @Nat.one_mul<| @Nat.mul_one
abbrev walkG:=ai @Qup<|ai @Ql1<|ai @Qvl<|ai @Q16<|ai @Q2m<|ai @Q0v<|ai @Q0m<|ai @Q1j<|ai @Nat.lt_irrefl<|ai @Nat.not_lt_zero<| @Nat.lt_add_one
abbrev wS:=ai walk<|ai walkL<|ai walkC<|ai @J9.eq_1<|ai @J9.eq_2<|ai @J9.eq_3<|ai @J9.eq_4<|ai @J9.eq_5<|ai @J9.eq_6<|ai @J9.eq_7<|ai @J9.eq_8<|ai @J9.eq_9<|ai @J9.eq_10<|ai @J9.eq_11<|ai @J9.eq_12<|ai @J9.eq_13<|ai @J9.eq_14<|ai @J9.eq_15<|ai @J9.eq_16<|ai @J9.eq_17<|ai @Qjz.eq_1<|ai @Qjz.eq_2<|ai @nov.eq_1<|ai @gd.eq_1<|ai @rho.eq_1<|ai @rho.eq_2<|ai @rho.eq_3<|ai @rho.eq_4<|ai @Z5.eq_1<|ai @Z5.eq_2<|ai @wr.eq_1<|ai @wr.eq_2<| @K0.eq_1
abbrev wA:=ai wS walkM
abbrev wH:=ai walkH<|ai @new.eq_1<|ai @new.eq_2<|ai @Qd.eq_1<|ai @Qs.eq_1<|ai @Qa4.eq_1<|ai @Qa4.eq_2<|ai @Qae.eq_1<| @Qae.eq_2
abbrev wZ:=ai walkB<|ai walkE<|ai @zerosN.eq_1<|ai @zerosN.eq_2<|ai @Bn.eq_1<|ai @Bn.eq_2<|ai @Zt.eq_1<|ai @Zt.eq_2<|ai @V.pure.eq_1<|ai @V.pure.eq_2<|ai @V.pure.eq_3<|ai @V.pure.eq_4<|ai @V.pure.eq_5<|ai @V.pure.eq_6<|ai @V.pure.eq_7<|ai @V.pure.eq_8<|ai @V.pure.eq_9<|ai @V.pure.eq_10<| @V.pure.eq_11
abbrev wB:=ai wZ @splice.eq_1
abbrev wG:=ai walkG<|ai @new.eq_1<|ai @new.eq_2<|ai @Qa4.eq_1<|ai @Qa4.eq_2<|ai @Qae.eq_1<| @Qae.eq_2
section
variable {P : Program} {E : Env} {B : Nat} {F : Nat -> Nat -> Prop} {H : Qg}
def Qd1:Prim:=fun fr dst g as=>match as,dst with
 |[.face t (.map f s)],some d=>(match g fr d,g f s with
  |none,some (.map es bs clk)=>some (.face t (.map fr d),some (fr,d,.map es bs clk))
  |_,_=>none)
 |_,_=>none
def Env.newMapOf(E:Env)(f0 s0:Nat)(ces:Array MapEntry)(clk d:Nat):Env:=
 {w:=E.push (.map ces clk) d,mu:=upd E.mu f0 s0 (some E.w.heap.size),reg:=E.reg,mod:=E.mod,tab:=E.tab}
theorem Sim.newMapOf(S:Sim B F H E){f0 s0:Nat}(hf:f0<H.length)(hn:Qd H f0 s0=none){es:List (V×V)}{ces:Array MapEntry}(clk d:Nat)(hr:Js E es ces.toList):
 Ext H.length B E (E.newMapOf f0 s0 ces clk d)/\Sim B F (Qs H f0 s0 (.map es (ces.toList.map (·.born)) clk)) (E.newMapOf f0 s0 ces clk d):=by
 have hmn:=S.mu_none hn;have X:Ext H.length B E (E.newMapOf f0 s0 ces clk d):=by
  refine B5 S.bsz _ d _ _ _ ?_ ?_ ?_
  . intro f s b h;by_cases e:f=f0/\s=s0
    . rw[e.1,e.2,hmn] at h;cases h
    . rw[Zp _ _ e];exact h
  . exact fun f s n b lo hi _ h=>⟨n,b,lo,hi,h,.inr ⟨rfl,rfl,rfl,rfl⟩⟩
  . exact fun b i hb hm h=>hm h
 refine⟨X,S.step f0 s0 _ hf X (fun f s e=>Zp _ _ e) (by simp[Env.newMapOf,Q0]) (fun f s e=>rfl) ?_ ?_ ?_ ?_ ?_ ?_⟩
 . intro n x h;have:=S.reg_none hn;simp only[Env.newMapOf] at h;rw[this] at h;cases h
 . intro f s o b e ho hb;exact⟨K4 E _ d b (S.blk_lt ho hb),fun i h=>h⟩
 . exact fun b i h=>S.fmod b i h
 . intro b i h;simp only[Env.newMapOf,Env.push,Zfd] at h⊢;exact Zfe (S.modsz b i h)
 . exact⟨E.w.heap.size,ces,Q0 _ _ _ _,S.bsz,Kw E _ d,Js.mono X S.lt _ _ hr,rfl⟩
 . intro f s o b e ho hb h;simp only[blk,Env.newMapOf,Q0,Zic] at h;have:=S.blk_lt ho hb;omega
theorem Qve{f:FuncId}(hx:Qfi P f Extern.MapsClone.clone)(S:Sim B F H E){fr:Nat}(hlt:fr<H.length){dst:Option Nat}{args:List V}{cargs:List Value}{v:V}{x:Option (Nat×Nat×O)}
 (hr:Qr E args cargs)(h:Qd1 fr dst (Qd H) args=some (v,x)):Qay P f ⟨cargs⟩ E.w (Qbq B F H E (.ret v) (wr H x)):=by
 unfold Qd1 at h;split at h
 case h_2=>cases h
 rename_i t f1 s1 d;split at h
 case h_2=>cases h
 rename_i es bs clk hn hm;cases h;obtain⟨c,r,rfl,h1,h2⟩:=Qr.cons_iff.1 hr;rw[Qr.nil_iff] at h2;subst h2;simp only[Rel] at h1;obtain⟨c,rfl,b,hb,rfl⟩:=h1;obtain⟨b',ces,g1,g2,g3,g4,g5⟩:=S.obj f1 s1 _ hm;rw[hb] at g1;cases g1;subst g5;obtain⟨X,S'⟩:=S.newMapOf hlt hn clk E.w.drawn g4;refine .inl ⟨.iface t (.map (some E.w.heap.size)),(E.newMapOf fr d ces clk E.w.drawn).w,hx.run ?_,E.newMapOf fr d ces clk E.w.drawn,rfl,⟨_,rfl,?_⟩,S',X,by rw[Qic];exact Ze8 _⟩
 . have hdef:Extern.MapsClone.clone #[.iface t (.map (some b))]=(do
    let .map entries clock<-getObj b|stuck "maps.clone: a map expected"
    pure (.iface t (.map (some (<-newObj (.map entries clock)))))):=rfl
   show Sem.run P (Extern.MapsClone.clone #[.iface t (.map (some b))]) E.w=_;rw[hdef];simp[Kl g3,Env.newMapOf,Env.push]
 . simp only[Rel];exact⟨_,rfl,E.w.heap.size,Q0 _ _ _ _,rfl⟩
end
theorem Qbc{n:Nat}{v:V}{K:Qg}(h:n<=K.length):n<=(Yb n v K).length:=by
 unfold Yb;split
 . simp[Zf9];omega
 . exact h
theorem Xm{n:Nat}{v:V}{K:Qg}{f s:Nat}(hf:f<n):Qd (Yb n v K) f s=Qd K f s:=by
 unfold Yb;split
 . unfold Qd;rw[Zfh];simp[hf]
 . rfl
theorem Qoz{n:Nat}{v:V}{K:Qg}{f s:Nat}{o:O}(hf:f<n)(h:Qd K f s=some o)(ho:o.refs (fun f _=>Nat.ble n f)=true):Yb n v K=K:=by
 unfold Yb;split
 case isFalse=>rfl
 rename_i hc;exfalso;simp only[Zfr] at hc;have h2:Qd (K.take n) f s=some o:=by rw[<-h];unfold Qd;rw[Zfh];simp[hf]
 have:=Qar _ _ _ _ hc.2 h2;rw[this] at ho;cases ho
theorem Qb{H:Qg}{f s:Nat}{o:O}(hf:f<H.length)(f' s' :Nat):Qd (Qs H f s o) f' s' =if f' =f/\s' =s then some o else Qd H f' s' :=B6 H f s o hf f' s'
theorem Qm{H:Qg}{f s:Nat}{o:O}(hf:f<H.length):Qd (Qs H f s o) f s=some o:=by rw[B6 H f s o hf];simp
theorem Jq{H:Qg}{f s s' :Nat}{o:O}(hf:f<H.length)(h:¬s' =s):Qd (Qs H f s o) f s' =Qd H f s' :=by rw[B6 H f s o hf];simp[h]
theorem Q8{H:Qg}{f f' s s' :Nat}{o:O}(hf:f<H.length)(h:¬f' =f):Qd (Qs H f s o) f' s' =Qd H f' s' :=by rw[B6 H f s o hf];simp[h]
theorem Ks{H:Qg}{f f' s s' :Nat}{o:O}(hf:f<H.length)(h:¬(f' =f/\s' =s)):Qd (Qs H f s o) f' s' =Qd H f' s' :=by rw[B6 H f s o hf];simp[h]
section
variable {P : Program} {pol : Pol} {C : Call} {L : Yu -> Qas} {fn fr : Nat} {t : List V} {H : Qg} {d : Option Nat} {k k' : List It} {Q : Ex -> List V -> Qg -> Prop}
def CR(P:Program)(pol:Pol)(f:FuncId)(args:List V)(H:Qg)(R:V->Qg->Prop):Prop:=CW P pol f args H fun r H' =>∃v,r= .ret v/\R v H'
theorem CR.mono{f:FuncId}{args:List V}{R R' :V->Qg->Prop}(h:CR P pol f args H R)(k:∀v H',R v H' ->R' v H'):CR P pol f args H R' :=by refine CW.mono h ?_;rintro r H' ⟨v,h1,h2⟩;exact⟨v,h1,k _ _ h2⟩
def Z2(P:Program)(F:Func)(b:Nat)(R:V->Qg->Prop)(e:Ex)(t:List V)(H:Qg):Prop:=match e with
 | .normal| .ret=>∃v,Qil P F t H=some v/\R v (Yb b v H)
 |_=>False
theorem Z2.ret{F:Func}{b:Nat}{R:V->Qg->Prop}{v:V}(h:Qil P F t H=some v)(h2:R v (Yb b v H)):Z2 P F b R .ret t H:=⟨v,h,h2⟩
theorem Z2.normal{F:Func}{b:Nat}{R:V->Qg->Prop}{v:V}(h:Qil P F t H=some v)(h2:R v (Yb b v H)):Z2 P F b R .normal t H:=⟨v,h,h2⟩
theorem Z2.to{F:Func}{b:Nat}{R:V->Qg->Prop}{e:Ex}(h:Z2 P F b R e t H):End P F b (fun r H' =>∃v,r= .ret v/\R v H') e t H:=by
 cases e with
 |normal=>obtain⟨v,h1,h2⟩:=h;exact⟨v,h1,v,rfl,h2⟩
 |ret=>obtain⟨v,h1,h2⟩:=h;exact⟨v,h1,v,rfl,h2⟩
 |exit i=>exact h
 |panic v=>exact h.elim
structure Qkt(H:Qg)(n:Nat)(K:Qg):Prop where
 len:K.length=n+1
 lt:n<K.length
 own:∀s,Qd K n s=none
 low:∀f s,f<n->Qd K f s=Qd H f s
theorem Y2{f:FuncId}{F:Func}{c:Code}{args:List V}{R:V->Qg->Prop}(hF:P.funcs[f]?=some F)(hc:F.body=some c)
 (h:∀n K,n=H.length->Qkt H n K->W (U P pol (Zx P pol) Yc f n [.code c] .normal (args++List.replicate (F.ntmps-args.length) .bad) K) (Z2 P F n R))(hs:pol.settle f=[]:=by rfl):CR P pol f args H R:=by
 refine Qol hF hc ((h H.length (H++[[]]) rfl ⟨by simp,by simp,fun s=>?_,fun f s hf=>?_⟩).mono fun e t H h=>h.to) hs
 . rw[Ql1];rfl
 . exact Qnx H _ hf s
theorem W.call{f:FuncId}{args:List V}{R:V->Qg->Prop}(h:CR P pol f args H R)(hp:pol.prim f=none)(hq:pol.pure fn f=false)(ht:pol.thin fn f=false)(hl:pol.lift fn f=false)(hk:pol.look fn f=false)
 (h2:∀v H',R v H' ->W (U P pol C L fn fr k .normal (Z5 t d v) H') Q)(hz:pol.peek fn f=false:=by rfl)(hw:pol.side fn f=none:=by rfl)(hal:pol.alone fn d=false:=by rfl):W (UC P pol C L fn fr (Zn pol (Zx P pol) fn fr d f args H) d k k' t) Q:=by
 obtain⟨r,H',h3,v,rfl,h4⟩:=h;rw[Qq9 hp hq ht h3 hl hk hz hw hal];exact h2 v H' h4
theorem W.pcall{f:FuncId}{args:List V}{R:V->Prop}(h:Fz P pol f args R)(hp:pol.prim f=none)(hq:pol.pure fn f=true)(ha:frzL (frz (fun _ _=>none) depth) args=some args)
 (h2:∀v,R v->W (U P pol C L fn fr k .normal (Z5 t d v) H) Q):W (UC P pol C L fn fr (Zn pol (Zx P pol) fn fr d f args H) d k k' t) Q:=by
 obtain⟨v,h3,h4⟩:=h.op hp ha;rw[h4 fn fr d H hq];exact h2 v h3
end
end Go.AM
end
