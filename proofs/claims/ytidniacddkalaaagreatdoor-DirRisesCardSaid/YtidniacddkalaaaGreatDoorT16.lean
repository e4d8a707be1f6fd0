/- This file holds in one the texts An30, An31, An32, An33, An34; each says at its head what it proves. -/
import Derived.Test.YtidniacddkalaaaGreatDoorT15
set_option linter.unusedSimpArgs false
set_option linter.unusedVariables false
section
namespace Go.AM
def W(X:Out)(Q:Ex->List V->Heap->Prop):Prop:=match X with
 |some (e,t,H)=>Q e t H
 |none=>False
theorem W.mono{X:Out}{Q Q' :Ex->List V->Heap->Prop}(h:W X Q)(k:∀e t H,Q e t H->Q' e t H):W X Q' :=by
 cases X with
 |none=>exact h
 |some x=>exact k _ _ _ h
theorem W.out{X:Out}{Q:Ex->List V->Heap->Prop}(h:W X Q):∃e t H,X=some (e,t,H)/\Q e t H:=by
 cases X with
 |none=>exact h.elim
 |some x=>exact⟨_,_,_,rfl,h⟩
section
variable {P : Program} {pol : Pol} {C : Call} {L : Ka -> Kw} {fn fr : Nat} {t : List V} {H : Heap} {d : Option Nat} {k k' : List It} {Q : Ex -> List V -> Heap -> Prop}
theorem W.done{e:Ex}(h:Q e t H):W (some (e,t,H)) Q:=h
theorem W.ite{b:Bool}(h1:b=true->W (U P pol C L fn fr k .normal t H) Q)(h2:b=false->W (U P pol C L fn fr k' .normal t H) Q):W (UI P pol C L fn fr (.bool b) k k' t H) Q:=by
 cases b with
 |true=>exact h1 rfl
 |false=>exact h2 rfl
theorem W.guard{b want:Bool}(h1:b=want->W (U P pol C L fn fr k .normal t H) Q)(h2:b=(!want)->W (U P pol C L fn fr k' .normal (Qu t d nov) H) Q):W (UG P pol C L fn fr (some (.bool b)) want k k' d t H) Q:=by
 unfold UG;by_cases h:b=want
 . simp only[h,if_true];exact h1 h
 . simp only[h,if_false];exact h2 (by cases b<;>cases want<;>simp_all)
theorem W.guardT{b:Bool}(h1:b=true->W (U P pol C L fn fr k .normal t H) Q)(h2:b=false->W (U P pol C L fn fr k' .normal (Qu t d nov) H) Q):W (UG P pol C L fn fr (some (.bool b)) true k k' d t H) Q:=W.guard h1 h2
theorem W.guardF{b:Bool}(h1:b=false->W (U P pol C L fn fr k .normal t H) Q)(h2:b=true->W (U P pol C L fn fr k' .normal (Qu t d nov) H) Q):W (UG P pol C L fn fr (some (.bool b)) false k k' d t H) Q:=W.guard h1 h2
theorem W.ul{X:Out}(h:W X fun e t H=>W (U P pol C L fn fr k e t H) Q):W (UL P pol C L fn fr X k) Q:=by
 cases X with
 |none=>exact h.elim
 |some x=>exact h
theorem W.loop{α:Type}{b:Code}(I:α->List V->Heap->Prop)(m:α->Nat)
 (step:∀a t H,I a t H->∃t1 H1,forget pol fn fr (Zn b) t H=some (t1,H1)/\W (U P pol C Zz fn fr [.code b] .normal t1 H1) fun e t2 H2=>match e with
   | .normal=>∃a',I a' t2 H2/\m a' <m a
   |e=>Q e t2 H2)(a:α)(h:I a t H)(hn:Zx b=none:=by rfl):W (Zz (round P pol C Zz fn fr b) t H) Q:=by
 induction hm:m a using Nat.strongRecOn generalizing a t H with
 |ind n ih=>
  subst hm;obtain⟨t1,H1,h1,h2⟩:=step a t H h;obtain⟨e,t2,H2,h3,h4⟩:=h2.out;rw[Q6h ((Zbd hn h1).trans (by rw[h3]))];cases e with
  |normal=>
   obtain⟨a',h5,h6⟩:=h4;exact ih _ h6 a' h5 rfl
  |exit i=>exact h4
  |ret=>exact h4
  |panic v=>exact h4
theorem W.loopS{α:Type}{b:Code}{kt:List Nat}(hk:pol.keep fn (Zn b)=some (kt,[]))(S:α->List V)(HS:α->Heap)(I:α->Prop)(m:α->Nat)
 (step:∀a,I a->W (U P pol C Zz fn fr [.code b] .normal (S a) (HS a)) fun e t2 H2=>match e with
   | .normal=>∃a',Yf kt t2 0=S a' /\H2=HS a' /\I a' /\m a' <m a
   |e=>Q e t2 H2)(a:α)(h:I a)(ht:Yf kt t 0=S a)(hH:H=HS a)(hn:Zx b=none:=by rfl)(hm:pol.move fn (Zn b)=none:=by rfl):W (Zz (round P pol C Zz fn fr b) t H) Q:=by
 refine W.loop (Q:=Q) (fun a t H=>Yf kt t 0=S a/\H=HS a/\I a) m ?_ a ⟨ht,hH,h⟩ hn;rintro a t H ⟨h1,h2,h3⟩;refine⟨S a,HS a,by rw[Ji hk hm,h1,h2],(step a h3).mono ?_⟩;intro e t2 H2 h4;cases e with
 |normal=>obtain⟨a',q1,q2,q3,q4⟩:=h4;exact⟨a',⟨q1,q2,q3⟩,q4⟩
 |exit i=>exact h4
 |ret=>exact h4
 |panic v=>exact h4
def End(P:Program)(F:Func)(b:Nat)(R:Rt->Heap->Prop)(e:Ex)(t:List V)(H:Heap):Prop:=match e with
 | .normal| .ret=>∃v,Xn P F t H=some v/\R (.ret v) (Bb b v H)
 | .panic v=>R (.pan v) (Bb b v H)
 | .exit _=>False
theorem End.ret{F:Func}{b:Nat}{R:Rt->Heap->Prop}{v:V}(h:Xn P F t H=some v)(h2:R (.ret v) (Bb b v H)):End P F b R .ret t H:=⟨v,h,h2⟩
theorem End.normal{F:Func}{b:Nat}{R:Rt->Heap->Prop}{v:V}(h:Xn P F t H=some v)(h2:R (.ret v) (Bb b v H)):End P F b R .normal t H:=⟨v,h,h2⟩
def CW(P:Program)(pol:Pol)(f:FuncId)(args:List V)(H:Heap)(R:Rt->Heap->Prop):Prop:=∃r H',Qp P pol f args H=some (r,H')/\R r H'
theorem CW.mono{f:FuncId}{args:List V}{R R' :Rt->Heap->Prop}(h:CW P pol f args H R)(k:∀r H',R r H' ->R' r H'):CW P pol f args H R' :=by obtain⟨r,H',h1,h2⟩:=h;exact⟨r,H',h1,k _ _ h2⟩
theorem Kb{f:FuncId}{F:Func}{c:Code}{args:List V}{R:Rt->Heap->Prop}(hF:P.funcs[f]?=some F)(hc:F.body=some c)
 (h:W (U P pol (Qp P pol) Zz f H.length [.code c] .normal (args++List.replicate (F.ntmps-args.length) .bad) (H++[[]])) (End P F H.length R))(hs:pol.settle f=[]:=by rfl):CW P pol f args H R:=by
 obtain⟨e,t',H',h1,h2⟩:=h.out;have key:∀r,Qqk P F H.length (some (e,t',H'))=some r->Qp P pol f args H=some r:=fun r hr=>Ze1 hF hc (by rw[h1];exact hr) hs;cases e with
 |normal=>
  obtain⟨v,h3,h4⟩:=h2;exact⟨_,_,key (.ret v,Bb H.length v H') (by simp only[Qqk,h3]),h4⟩
 |ret=>
  obtain⟨v,h3,h4⟩:=h2;exact⟨_,_,key (.ret v,Bb H.length v H') (by simp only[Qqk,h3]),h4⟩
 |exit i=>exact h2.elim
 |panic v=>exact⟨_,_,key (.pan v,Bb H.length v H') rfl,h2⟩
def Fz(P:Program)(pol:Pol)(f:FuncId)(args:List V)(R:V->Prop):Prop:=∃v H' v',Qp P pol f args []=some (.ret v,H')/\frz (Qd H') depth v=some v' /\R v'
theorem Fz.mono{f:FuncId}{args:List V}{R R' :V->Prop}(h:Fz P pol f args R)(k:∀v,R v->R' v):Fz P pol f args R' :=by obtain⟨v,H',v',h1,h2,h3⟩:=h;exact⟨v,H',v',h1,h2,k _ h3⟩
theorem Fz.of_cw{f:FuncId}{args:List V}{R:V->Prop}(h:CW P pol f args [] fun r H' =>∃v,r= .ret v/\∃v',frz (Qd H') depth v=some v' /\R v'):Fz P pol f args R:=by obtain⟨r,H',h1,v,rfl,v',h2,h3⟩:=h;exact⟨v,H',v',h1,h2,h3⟩
theorem Fz.op' {f:FuncId}{args args' :List V}{R:V->Prop}(h:Fz P pol f args' R)(hp:pol.prim f=none)(ha:Qt (frz (fun _ _=>none) depth) args=some args'):
 ∃v,R v/\∀(fn fr:Nat) (d:Option Nat) (H:Heap),pol.pure fn f=true->callOp pol (Qp P pol) fn fr d f args H=some (.ret v,H):=by
 obtain⟨v,H',v',h1,h2,h3⟩:=h;exact⟨v',h3,fun fn fr d H hq=>Qna hp hq ha h1 h2⟩
theorem Fz.op{f:FuncId}{args:List V}{R:V->Prop}(h:Fz P pol f args R)(hp:pol.prim f=none)(ha:Qt (frz (fun _ _=>none) depth) args=some args):
 ∃v,R v/\∀(fn fr:Nat) (d:Option Nat) (H:Heap),pol.pure fn f=true->callOp pol (Qp P pol) fn fr d f args H=some (.ret v,H):=by
 obtain⟨v,H',v',h1,h2,h3⟩:=h;exact⟨v',h3,fun fn fr d H hq=>Qna hp hq ha h1 h2⟩
theorem K0{f:FuncId}{args:List V}{r:Rt×Heap}(hp:pol.prim f=none)(hq:pol.pure fn f=false)(ht:pol.thin fn f=false)(h:Qp P pol f args H=some r)(hl:pol.lift fn f=false:=by rfl)(hk:pol.look fn f=false:=by rfl):callOp pol (Qp P pol) fn fr d f args H=some r:=by simp only[callOp,hp,hq,hl,hk,Qfg,ht,Zre,if_false,h]
theorem Qng{f:FuncId}{args args' :List V}{r:Rt×Heap}(hp:pol.prim f=none)(hq:pol.pure fn f=false)(ht:pol.thin fn f=true)(ha:Qt (frz (fun _ _=>none) depth) args=some args')(h:Qp P pol f args' H=some r)(hl:pol.lift fn f=false:=by rfl)(hk:pol.look fn f=false:=by rfl):
 callOp pol (Qp P pol) fn fr d f args H=some r:=by
 simp only[callOp,hp,hq,hl,hk,Qfg,ht,if_true,ha,Zre,if_false,h]
end
theorem Qqv(g g' :Get):∀(n:Nat),(∀v:V,v.refs (fun _ _=>true)=false->frz g n v=frz g' n v)
 |0=>fun _ _=>rfl
 |n+1=>by
  have ih:=Qqv g g' n;have ihL:∀l:List V,Qi (fun _ _=>true) l=false->Qt (frz g n) l=Qt (frz g' n) l:=by
   intro l
   induction l with
   |nil=>intro _;rfl
   |cons x l ihl=>
    intro h;simp only[Qi,Zsr] at h;simp only[Qt,ih x h.1,ihl h.2]
  intro v h;cases v with
  |ptr=>simp[V.refs] at h
  |gS=>simp[V.refs] at h
  |mS=>simp[V.refs] at h
  |map=>simp[V.refs] at h
  |func fn a b=>
   simp only[V.refs,Zsr] at h;simp only[frz,ihL a h.1,ihL b h.2]
  |face t x=>simp only[V.refs] at h;simp only[frz,ih x h]
  |agg cs=>simp only[V.refs] at h;simp only[frz,ihL cs h]
  |tuple cs=>simp only[V.refs] at h;simp only[frz,ihL cs h]
  |rptr cs o=>simp only[V.refs] at h;simp only[frz,ihL cs h]
  |_=>rfl
theorem Q82{p q:Nat->Nat->Bool}(h:∀a b,p a b=q a b)(v:V):v.refs p=v.refs q:=by
 have:p=q:=by funext a b;exact h a b
 rw[this]
theorem Qyx(v:V)(H:Heap)(n:Nat):frz (Qd (Bb 0 v H)) n v=frz (Qd H) n v:=by
 unfold Bb;split
 . rename_i h;simp only[Zr1,Zss] at h;apply Qqv;rw[<-h.1];exact Q82 (fun a b=>by simp) v
 . rfl
section
variable {P : Program} {pol : Pol}
def Qk(P:Program)(F:Func)(R:V->Prop)(e:Ex)(t:List V)(H:Heap):Prop:=match e with
 | .normal| .ret=>∃v v',Xn P F t H=some v/\frz (Qd H) depth v=some v' /\R v'
 |_=>False
theorem Qk.ret{F:Func}{R:V->Prop}{t:List V}{H:Heap}{v v' :V}(h:Xn P F t H=some v)(h1:frz (Qd H) depth v=some v')(h2:R v'):Qk P F R .ret t H:=⟨v,v',h,h1,h2⟩
theorem Qk.normal{F:Func}{R:V->Prop}{t:List V}{H:Heap}{v v' :V}(h:Xn P F t H=some v)(h1:frz (Qd H) depth v=some v')(h2:R v'):Qk P F R .normal t H:=⟨v,v',h,h1,h2⟩
theorem Qw{f:FuncId}{F:Func}{c:Code}{args:List V}{R:V->Prop}(hF:P.funcs[f]?=some F)(hc:F.body=some c)
 (h:W (U P pol (Qp P pol) Zz f 0 [.code c] .normal (args++List.replicate (F.ntmps-args.length) .bad) [[]]) (Qk P F R))(hs:pol.settle f=[]:=by rfl):Fz P pol f args R:=by
 apply Fz.of_cw;refine Kb hF hc (h.mono ?_) hs;intro e t H h;cases e with
 |normal=>obtain⟨v,v',h1,h2,h3⟩:=h;exact⟨v,h1,v,rfl,v',by rw[<-h2];exact Qyx v H depth,h3⟩
 |ret=>obtain⟨v,v',h1,h2,h3⟩:=h;exact⟨v,h1,v,rfl,v',by rw[<-h2];exact Qyx v H depth,h3⟩
 |exit i=>exact h.elim
 |panic v=>exact h.elim
end
def Q0(esz:Nat)(v:V)(cells:List V)(n:Nat):Prop:=cells.length=n*esz/\((v= .nS/\n=0)\/∃full,v= .iS cells n full)
theorem Q0.mk{esz:Nat}{cells:List V}{n:Nat}{full:Bool}(h:cells.length=n*esz):Q0 esz (.iS cells n full) cells n:=⟨h,.inr ⟨full,rfl⟩⟩
theorem Q0.nil{esz:Nat}:Q0 esz .nS [] 0:=⟨by simp,.inl ⟨rfl,rfl⟩⟩
section
variable {P : Program} {esz n : Nat} {v : V} {cells : List V} {u e : TypeId} {g : Get} {k : IntKind}
theorem Q0.frz(h:Q0 esz v cells n)(m:Nat):AM.frz g (m+1) v=some v:=by obtain⟨_,⟨rfl,_⟩|⟨f,rfl⟩⟩:=h<;>rfl
theorem Q0.len(hu:P.underlying u=some (.slice e))(h:Q0 esz v cells n):∀g,Y4 P g u v=some (.int .i64 n):=by
 intro g;obtain⟨_,⟨rfl,rfl⟩|⟨f,rfl⟩⟩:=h
 . exact Qeo hu
 . exact Bx hu _ _ _
theorem Q0.at(hu:P.underlying u=some (.slice e))(hs:sz P e=some esz)(he:0<esz)(h:Q0 esz v cells n){i:Int}(h0:0<=i)(hi:i<n):Qm P u v (.int k i)=some (.iptr cells (i.toNat*esz)):=by
 obtain⟨hl,⟨rfl,rfl⟩|⟨f,rfl⟩⟩:=h
 . omega
 . rw[ia_of hu hs,if_pos ⟨h0,hi,hl,he⟩]
theorem Q0.sc(h:Q0 esz v cells n):Ql g esz v=some (cells,n):=by
 obtain⟨hl,⟨rfl,rfl⟩|⟨f,rfl⟩⟩:=h
 . have:cells=[]:=Zst (by simpa using hl);subst this;rfl
 . simp[Ql,hl]
theorem Q0.noRefs(h:Q0 esz v cells n)(p:Nat->Nat->Bool):v.refs p=false:=by obtain⟨_,⟨rfl,_⟩|⟨f,rfl⟩⟩:=h<;>rfl
theorem Q0.pure(h:Q0 esz v cells n):v.pure=true:=by obtain⟨_,⟨rfl,_⟩|⟨f,rfl⟩⟩:=h<;>rfl
end
theorem Zd4{cells:List V}{n esz:Nat}{full:Bool}(hl:cells.length=n*esz)(lo hi:Option Int)(h0:0<=lo.getD 0)(h1:lo.getD 0<=hi.getD n)(h2:hi.getD n<=n):
 ∃f,Qj9 cells n full esz lo hi none=some (.iS ((cells.drop ((lo.getD 0).toNat*esz)).take (((hi.getD n).toNat-(lo.getD 0).toNat)*esz)) ((hi.getD n).toNat-(lo.getD 0).toNat) f):=by
 refine⟨(full||(none:Option Int).isSome)&&((n:Int).toNat==(hi.getD n).toNat),?_⟩;simp only[Qj9,hl,if_true,Xs,Zsu];rw[if_pos ⟨by omega,by omega,by omega,by omega,h0,h1,by simp⟩]
theorem Q0.cut{P:Program}{esz n:Nat}{v:V}{cells:List V}{u e:TypeId}(hu:P.underlying u=some (.slice e))(hs:sz P e=some esz)(h:Q0 esz v cells n)(lo hi:Option Int)
 (h0:0<=lo.getD 0)(h1:lo.getD 0<=hi.getD n)(h2:hi.getD n<=n):
 ∃w,(∀g,Zh P g u v (lo.map (.int .i64)) (hi.map (.int .i64)) none=some w)/\Q0 esz w ((cells.drop ((lo.getD 0).toNat*esz)).take (((hi.getD n).toNat-(lo.getD 0).toNat)*esz)) ((hi.getD n).toNat-(lo.getD 0).toNat):=by
 have ol:Yj (lo.map (.int .i64))=some lo:=by cases lo<;>rfl
 have oh:Yj (hi.map (.int .i64))=some hi:=by cases hi<;>rfl
 have on:Yj none=some none:=rfl;obtain⟨hl,⟨rfl,rfl⟩|⟨f,rfl⟩⟩:=h
 . refine⟨.nS,fun g=>?_,?_⟩
   . simp only[Zh,ol,oh,on,hu,hs,Xs];rw[if_pos ⟨by simp,by simp,by simp only[Int.natCast_zero] at*;omega,by simp at*;omega,h0,h1,by simp⟩]
   . have:cells=[]:=Zst (by simpa using hl);subst this;have e:(hi.getD (0:Nat)).toNat-(lo.getD 0).toNat=0:=by omega
     rw[e];exact⟨by simp,.inl ⟨rfl,rfl⟩⟩
 . obtain⟨f',e⟩:=Zd4 (full:=f) hl lo hi h0 h1 h2;refine⟨_,fun g=>?_,Q0.mk (full:=f') ?_⟩
   . simp only[Zh,ol,oh,on,hu,hs];exact e
   . rw[Zsv,Zsw,hl,<-Nat.sub_mul];apply Nat.min_eq_left;apply Zsx;omega
def Qf(v:V)(l:List UInt8):Prop:=Q0 1 v (Qb l) l.length
theorem Q8(l:List UInt8):(Qb l).length=l.length:=by simp[Qb]
theorem Qea(l:List UInt8)(i:Nat):(Qb l)[i]?=(l[i]?).map fun b=> .int .u8 b.toNat:=by simp[Qb]
theorem Qa4(l:List UInt8)(n:Nat):(Qb l).take n=Qb (l.take n):=by simp[Qb]
theorem Qfy(l:List UInt8)(n:Nat):(Qb l).drop n=Qb (l.drop n):=by simp[Qb]
theorem K8(l m:List UInt8):Qb (l++m)=Qb l++Qb m:=by simp[Qb]
theorem Qf.mk(l:List UInt8)(full:Bool):Qf (.iS (Qb l) l.length full) l:=Q0.mk (by simp[Q8])
theorem Qf.nil:Qf .nS []:=Q0.nil
theorem Qb8:∀l:List UInt8,AM.bytesOf (Qb l)=some l
 |[]=>rfl
 |b::l=>by
  have:=Qb8 l;simp only[Qb,Zrw,AM.bytesOf] at this⊢;rw[this];simp
theorem Qf.bytesV{v:V}{l:List UInt8}{g:Get}(h:Qf v l):bytesV g v=some l:=by have hc:=Q0.sc (g:=g) h;obtain⟨_,⟨rfl,_⟩|⟨f,rfl⟩⟩:=h<;>simp only[AM.bytesV,hc,Qb8]
theorem Qf.cut{P:Program}{v:V}{l:List UInt8}{u e:TypeId}(hu:P.underlying u=some (.slice e))(hs:sz P e=some 1)(h:Qf v l)(lo hi:Option Int)
 (h0:0<=lo.getD 0)(h1:lo.getD 0<=hi.getD l.length)(h2:hi.getD l.length<=l.length):
 ∃w,(∀g,Zh P g u v (lo.map (.int .i64)) (hi.map (.int .i64)) none=some w)/\Qf w ((l.drop (lo.getD 0).toNat).take ((hi.getD l.length).toNat-(lo.getD 0).toNat)):=by
 obtain⟨w,h3,h4⟩:=Q0.cut hu hs h lo hi h0 h1 h2;refine⟨w,h3,?_⟩;simp only[Zsd,Qfy,Qa4] at h4;unfold Qf;rwa[show((l.drop (lo.getD 0).toNat).take ((hi.getD l.length).toNat-(lo.getD 0).toNat)).length=(hi.getD l.length).toNat-(lo.getD 0).toNat by rw[Zsv,Zsw];omega]
def Qr(l:List Int):List V:=l.map fun i=> .int .i64 i
def Ke(v:V)(l:List Int):Prop:=Q0 1 v (Qr l) l.length
theorem X7(l:List Int):(Qr l).length=l.length:=by simp[Qr]
theorem Q07(l:List Int)(i:Nat):(Qr l)[i]?=(l[i]?).map fun b=> .int .i64 b:=by simp[Qr]
theorem Ke.mk(l:List Int)(full:Bool):Ke (.iS (Qr l) l.length full) l:=Q0.mk (by simp[X7])
theorem Yc(l:List UInt8):Qx (Qb l)=true:=by
 induction l with
 |nil=>rfl
 |cons b l ih=>simp only[Qb,Zrw,Qx,V.pure,Zsy] at ih⊢;exact ih
def Q0j(pol:Pol)(fn fr:Nat)(d:Option Nat)(ids:List (Nat×Nat))(f:FuncId):FP:=
 if(pol.prim f).isNone&&pol.pure fn f then .quiet else if(pol.prim f).isNone&&pol.lift fn f then(match d with
  |some d=> .ids ids [(fr,d)]
  |none=> .all) else .all
section
variable (P : Program) (pol : Pol) (C : Call) (L : Ka -> Kw) (fn fr : Nat)
def UCT(X:Option (Rt×Heap))(d:Option Nat)(k:List It)(t:List V):Out:=match X with
 |some (.ret v,H)=>U P pol C L fn fr k .normal (Qu t d v) H
 |_=>none
def UST(q far:Bool)(ids:List (Nat×Nat))(X:Option Zk)(d:Option Nat)(a:Array Oper)(r:List Oper)(T:List FP)(k:List It)(t:List V)(H:Heap):Out:=match X with
 |some (.val v none)=>U P pol C L fn fr (.opsT a r ((if q then .quiet else if far then .all else .ids ids [])::T)::k) .normal (Qu t d v) H
 |some (.val v (some (f,s,o)))=>U P pol C L fn fr (.opsT a r ((if q then .quiet else if far then .all else .ids ids [(f,s)])::T)::k) .normal (Qu t d v) (hset H f s o)
 |some (.round f s args)=>UR P pol C L fn fr (C none (.yield f s::args) H) d (.opsT a r ((if q then .quiet else .all)::T)::k) t
 |some (.call f args)=>UCT P pol C L fn fr (callOp pol C fn fr d f args H) d (.opsT a r ((if q then .quiet else if far then .all else Q0j pol fn fr d ids f)::T)::k) t
 |_=>none
def UGT(v:Option V)(want:Bool)(o:Oper)(d:Option Nat)(a:Array Oper)(r:List Oper)(T:List FP)(k:List It)(t:List V)(H:Heap):Out:=match v with
 |some (.bool b)=>if b=want then U P pol C L fn fr (.opsT a (o::r) T::k) .normal t H else U P pol C L fn fr (.opsT a r (.quiet::T)::k) .normal (Qu t d nov) H
 |some (.tuple [])=>U P pol C L fn fr (.opsT a r (.quiet::T)::k) .normal (Qu t d nov) H
 |_=>none
end
section
variable {P : Program} {pol : Pol} {C : Call} {L : Ka -> Kw} {fn fr : Nat} {r : List Oper} {t : List V} {H : Heap} {d : Option Nat} {ty u : TypeId} {ps : String} {af : Array Edge} {x y z : Operand} {k : List It} {v : V} {a : Array Oper} {T : List FP}
theorem Ze6:UCT P pol C L fn fr (some (.ret v,H)) d k t=U P pol C L fn fr k .normal (Qu t d v) H:=rfl
theorem Zct{q far:Bool}{ids:List (Nat×Nat)}:UST P pol C L fn fr q far ids (some (.val v none)) d a r T k t H=U P pol C L fn fr (.opsT a r ((if q then .quiet else if far then .all else .ids ids [])::T)::k) .normal (Qu t d v) H:=rfl
theorem Zdo{q far:Bool}{ids:List (Nat×Nat)}{f s:Nat}{o:O}:UST P pol C L fn fr q far ids (some (.val v (some (f,s,o)))) d a r T k t H=U P pol C L fn fr (.opsT a r ((if q then .quiet else if far then .all else .ids ids [(f,s)])::T)::k) .normal (Qu t d v) (hset H f s o):=rfl
theorem Zak{q far:Bool}{ids:List (Nat×Nat)}{f:FuncId}{args:List V}:UST P pol C L fn fr q far ids (some (.call f args)) d a r T k t H=
 UCT P pol C L fn fr (callOp pol C fn fr d f args H) d (.opsT a r ((if q then .quiet else if far then .all else Q0j pol fn fr d ids f)::T)::k) t:=rfl
theorem ugt_tt{o:Oper}:UGT P pol C L fn fr (some (.bool true)) true o d a r T k t H=U P pol C L fn fr (.opsT a (o::r) T::k) .normal t H:=rfl
theorem ugt_ff{o:Oper}:UGT P pol C L fn fr (some (.bool false)) false o d a r T k t H=U P pol C L fn fr (.opsT a (o::r) T::k) .normal t H:=rfl
theorem ugt_tf{o:Oper}:UGT P pol C L fn fr (some (.bool true)) false o d a r T k t H=U P pol C L fn fr (.opsT a r (.quiet::T)::k) .normal (Qu t d nov) H:=rfl
theorem ugt_ft{o:Oper}:UGT P pol C L fn fr (some (.bool false)) true o d a r T k t H=U P pol C L fn fr (.opsT a r (.quiet::T)::k) .normal (Qu t d nov) H:=rfl
theorem ugt_no{want:Bool}{o:Oper}:UGT P pol C L fn fr (some (.tuple [])) want o d a r T k t H=U P pol C L fn fr (.opsT a r (.quiet::T)::k) .normal (Qu t d nov) H:=rfl
theorem Ql3{o:Oper}(hw:Zy a t o=some true):U P pol C L fn fr (.opsT a (o::r) T::k) .normal t H=match Q7 P pol C fn fr t H o with
 |some (.normal,t1,H1)=>U P pol C L fn fr (.opsT a r (Jk P pol fn fr t H o::T)::k) .normal t1 H1
 |_=>none:=by
 simp only[U,Q3,hw];cases Q7 P pol C fn fr t H o with
 |none=>rfl
 |some x=>
  obtain⟨e,t1,H1⟩:=x;cases e with
  |normal=>
   simp only;cases Q3 P pol C fn fr a r t1 H1 with
   |none=>rfl
   |some y=>
    obtain⟨t2,H2,T2⟩:=y;simp only[Zrr,List.reverse_cons,Zsz,List.singleton_append]
  |_=>rfl
theorem w_opT{op:Op}:U P pol C L fn fr (.opsT a ({dst:=d,op:=op,type:=ty,pos:=ps,after:=af,guard:=none}::r) T::k) .normal t H=
 UST P pol C L fn fr (Q9 op) (Y9 op) (Kp fr (rho t) {dst:=d,op:=op,type:=ty,pos:=ps,after:=af,guard:=none}) (Zr P (pol.mt fn) fr (Qd H) (rho t) {dst:=d,op:=op,type:=ty,pos:=ps,after:=af,guard:=none}) d a r T k t H:=by
 rw[Ql3 rfl];simp only[Q7,Jk];cases Zr P (pol.mt fn) fr (Qd H) (rho t) {dst:=d,op:=op,type:=ty,pos:=ps,after:=af,guard:=none} with
 |none=>rfl
 |some s=>
  cases s with
  |val v w=>
   cases w with
   |none=>simp only[UST,wr]
   |some w=>obtain⟨f,s,o⟩:=w;simp only[UST,wr]
  |panic v=>rfl
  |call f args=>
   simp only[UST,UCT,Q0j];cases callOp pol C fn fr d f args H with
   |none=>rfl
   |some q=>obtain⟨q,H'⟩:=q;cases q<;>rfl
  |round f s args=>
   simp only[UST,UR];cases C none (.yield f s::args) H with
   |none=>rfl
   |some q=>obtain⟨q,H'⟩:=q;cases q with
    |ret v=>
     simp only;cases Q9 op<;>cases Y9 op<;>rfl
    |pan v=>rfl
theorem Zah{op:Op}{j:Nat}{want:Bool}:U P pol C L fn fr (.opsT a ({dst:=d,op:=op,type:=ty,pos:=ps,after:=af,guard:=some (j,want)}::r) T::k) .normal t H=
 UGT P pol C L fn fr (gd a t j) want {dst:=d,op:=op,type:=ty,pos:=ps,after:=af,guard:=none} d a r T k t H:=by
 have e:Zy a t {dst:=d,op:=op,type:=ty,pos:=ps,after:=af,guard:=some (j,want)}=match gd a t j with
  |some (.bool b)=>some (b==want)
  |some (.tuple [])=>some false
  |_=>none:=rfl
 have hf:∀t,(match Q3 P pol C fn fr a r (Qu t d nov) H with
  |some (t',H',T)=>some (t',H',FP.quiet::T)
  |none=>none).bind (fun x=>if okT (Region.before a) (loud (T.reverse++x.2.2))=true then U P pol C L fn fr k .normal x.1 x.2.1 else none)=U P pol C L fn fr (.opsT a r (.quiet::T)::k) .normal (Qu t d nov) H:=by
  intro t;simp only[U];cases Q3 P pol C fn fr a r (Qu t d nov) H with
  |none=>rfl
  |some y=>simp only[Zrr,List.reverse_cons,Zsz,List.singleton_append]
 cases hg:gd a t j with
 |none=>simp only[U,Q3,e,hg,UGT];rfl
 |some v=>
  rw[hg] at e;cases v with
  |bool b=>
   by_cases hb:b=want
   . subst hb;have e' :Zy a t {dst:=d,op:=op,type:=ty,pos:=ps,after:=af,guard:=some (j,b)}=some true:=by rw[e];simp
     rw[Ql3 e'];simp only[UGT,if_true];rw[Ql3 rfl];rfl
   . have e' :Zy a t {dst:=d,op:=op,type:=ty,pos:=ps,after:=af,guard:=some (j,want)}=some false:=by rw[e];simp[hb]
     simp only[UGT,hb,if_false];rw[<-hf t];simp only[U,Q3,e'];rfl
  |tuple l=>
   cases l with
   |nil=>
    simp only[UGT];rw[<-hf t];simp only[U,Q3,e];rfl
   |cons x l=>simp only[U,Q3,e,UGT];rfl
  |_=>simp only[U,Q3,e,UGT];rfl
theorem Q1p(h:okT (Region.before a) (loud T.reverse)=true):U P pol C L fn fr (.opsT a [] T::k) .normal t H=U P pol C L fn fr k .normal t H:=by rw[Q2e,if_pos h]
end
theorem W.opsT{P:Program}{pol:Pol}{C:Call}{L:Ka->Kw}{fn fr:Nat}{t:List V}{H:Heap}{a:Array Oper}{T:List FP}{k:List It}{Q:Ex->List V->Heap->Prop}
 (h:okT (Region.before a) (loud T.reverse)=true)(h2:W (U P pol C L fn fr k .normal t H) Q):W (U P pol C L fn fr (.opsT a [] T::k) .normal t H) Q:=by
 rw[Q1p h];exact h2
theorem Qo8(H G:Heap)(i s:Nat):Qd (H++G) (H.length+i) s=Qd G i s:=by unfold Qd;rw[Zsl (by omega),Nat.add_sub_cancel_left]
theorem J6(H G:Heap)(s:Nat):Qd (H++G) H.length s=Qd G 0 s:=Qo8 H G 0 s
theorem Q68(F:Frame)(G:Heap)(s:Nat):Qd (F::G) 0 s=Bi F s:=rfl
theorem Q5g(F:Frame)(G:Heap)(i s:Nat):Qd (F::G) (i+1) s=Qd G i s:=rfl
theorem Qdr{α:Type}(f:α->α):∀(H G:List α) (i:Nat),(H++G).modify (H.length+i) f=H++G.modify i f
 |[],G,i=>by simp
 |x::H,G,i=>by
  rw[Zs0,show(x::H).length+i=(H.length+i)+1 by simp;omega,List.modify_succ_cons,Qdr f H G i,Zs0]
theorem Qyq(H G:Heap)(i s:Nat)(o:O):hset (H++G) (H.length+i) s o=H++hset G i s o:=by unfold hset;exact Qdr _ H G i
theorem X8(H G:Heap)(s:Nat)(o:O):hset (H++G) H.length s o=H++hset G 0 s o:=Qyq H G 0 s o
theorem Q7z(F:Frame)(G:Heap)(s:Nat)(o:O):hset (F::G) 0 s o=Kf F s o::G:=rfl
theorem Q5i(F:Frame)(G:Heap)(i s:Nat)(o:O):hset (F::G) (i+1) s o=F::hset G i s o:=rfl
def WF(H:Heap):Prop:=Qz (fun f _=>Nat.ble H.length f) H=true
theorem WF.nil:WF []:=rfl
theorem B9(p:Nat->Nat->Bool):∀(H G:Heap),Qz p (H++G)=(Qz p H&&Qz p G)
 |[],G=>by simp[Qz]
 |F::H,G=>by simp[Qz,B9 p H G,Bool.and_assoc]
mutual
theorem Qbl{p q:Nat->Nat->Bool}(h:∀a b,p a b=true->q a b=true):∀v:V,v.refs q=false->v.refs p=false
 | .gS f s cs _ _,h2=>by
   simp only[V.refs,Zsr] at h2⊢;refine⟨?_,J9 h cs h2.2⟩;cases hp:p f s with
   |false=>rfl
   |true=>rw[h _ _ hp] at h2;cases h2.1
 | .rptr cs _,h2=>by simp only[V.refs] at h2⊢;exact J9 h cs h2
 | .ptr f s _,h2| .mS f s _ _ _ _,h2| .map f s,h2| .yield f s,h2=>by
   simp only[V.refs] at h2⊢;cases hp:p f s with
   |false=>rfl
   |true=>rw[h _ _ hp] at h2;cases h2
 | .func _ a b,h2=>by simp only[V.refs,Zsr] at h2⊢;exact⟨J9 h a h2.1,J9 h b h2.2⟩
 | .face _ v,h2=>by simp only[V.refs] at h2⊢;exact Qbl h v h2
 | .agg xs,h2| .tuple xs,h2=>by simp only[V.refs] at h2⊢;exact J9 h xs h2
 | .bad,_| .bool _,_| .int _ _,_| .str _,_| .nP,_| .iptr _ _,_| .nS,_| .iS _ _ _,_| .nM,_| .nF,_| .nI,_| .byte,_=>rfl
theorem J9{p q:Nat->Nat->Bool}(h:∀a b,p a b=true->q a b=true):∀l:List V,Qi q l=false->Qi p l=false
 |[],_=>rfl
 |x::xs,h2=>by simp only[Qi,Zsr] at h2⊢;exact⟨Qbl h x h2.1,J9 h xs h2.2⟩
end
theorem Qow{p q:Nat->Nat->Bool}(h:∀a b,p a b=true->q a b=true):∀l:List (V×V),Qgm q l=false->Qgm p l=false
 |[],_=>rfl
 |(a,b)::xs,h2=>by simp only[Qgm,Zsr] at h2⊢;exact⟨⟨Qbl h a h2.1.1,Qbl h b h2.1.2⟩,Qow h xs h2.2⟩
theorem Q1s{p q:Nat->Nat->Bool}(h:∀a b,p a b=true->q a b=true)(o:O)(h2:o.refs q=false):o.refs p=false:=by
 cases o with
 |map es bs clk=>exact Qow h es h2
 |iter m since seen stepped=>
  cases m with
  |none=>rfl
  |some x=>
   simp only[O.refs] at h2⊢;cases hp:p x.1 x.2 with
   |false=>rfl
   |true=>rw[h _ _ hp] at h2;cases h2
 |cells xs=>exact J9 h xs h2
 |loop st pend fn rid t=>exact J9 h t h2
 |_=>rfl
theorem Qhy{p q:Nat->Nat->Bool}(h:∀a b,p a b=true->q a b=true):∀F:Frame,Zb q F=true->Zb p F=true
 |[],_=>rfl
 |(s,o)::r,h2=>by
  simp only[Zb,Zr1,Zss] at h2⊢;exact⟨Q1s h o h2.1,Qhy h r h2.2⟩
theorem Qhn{p q:Nat->Nat->Bool}(h:∀a b,p a b=true->q a b=true):∀H:Heap,Qz q H=true->Qz p H=true
 |[],_=>rfl
 |F::r,h2=>by
  simp only[Qz,Zr1] at h2⊢;exact⟨Qhy h F h2.1,Qhn h r h2.2⟩
theorem Qb3{n m:Nat}(h:n<=m)(a b:Nat):(fun f (_:Nat)=>Nat.ble m f) a b=true->(fun f (_:Nat)=>Nat.ble n f) a b=true:=by simp only[Nat.ble_eq];omega
theorem WF.app{H G:Heap}(h:WF H)(h2:Qz (fun f _=>Nat.ble (H.length+G.length) f) G=true):WF (H++G):=by unfold WF;rw[B9,Zsi,h2,Zs1];exact Qhn (Qb3 (by omega)) H h
theorem Zl{H G:Heap}{v:V}(hv:v.refs (fun f _=>Nat.ble H.length f)=false)(hw:WF H):Bb H.length v (H++G)=H:=by
 unfold Bb;have e:(H++G).take H.length=H:=by simp
 rw[hv,e];unfold WF at hw;rw[hw];rfl
theorem K3{b:Nat}{H:Heap}{v:V}(hv:v.refs (fun f _=>Nat.ble b f)=true):Bb b v H=H:=by unfold Bb;rw[hv];rfl
section
variable {P : Program} {t t2 e e2 : TypeId} {n by_ m : Nat} {z cs : List V} {x : V} {g : Get} {mt : Nat -> Bool} {fr : Nat} {dst : Option Nat} {d : Nat}
theorem Zb6(hu:P.underlying t=some (.slice e))(hs:sz P e=some n)(hb:byt P e=some by_)(hz:zeroCells P e=some z)(hzl:z.length=n)(ht:P.underlying t2=some (.slice e2)){s:V}(hsl:Qn3 s=true)
 (hx:Ql g n x=some (cs,0)):Qq P mt fr g dst t t2 s x=some (.val s none):=by
 simp only[Qq,hu,hs,hb,hz,hzl,if_true,Z3,ht,hx,hsl]
theorem Qbq(hu:P.underlying t=some (.slice e))(hs:sz P e=some n)(hb:byt P e=some by_)(hz:zeroCells P e=some z)(hzl:z.length=n)(ht:P.underlying t2=some (.slice e2))
 (hx:Ql g n x=some (cs,m))(hm:0<m)(hr:Jl m by_=true):Qq P mt fr g dst t t2 .nS x=grown mt g fr dst cs cs m n:=by
 obtain⟨m,rfl⟩:∃k,m=k+1:=⟨m-1,by omega⟩;simp only[Qq,hu,hs,hb,hz,hzl,if_true,Z3,ht,hx,appendTo,hr]
theorem Qk2{c0:List V}{k:Nat}(hu:P.underlying t=some (.slice e))(hs:sz P e=some n)(hb:byt P e=some by_)(hz:zeroCells P e=some z)(hzl:z.length=n)(ht:P.underlying t2=some (.slice e2))
 (hx:Ql g n x=some (cs,m))(hm:0<m)(hc:c0.length=k*n)(hr:Jl (k+m) by_=true):Qq P mt fr g dst t t2 (.iS c0 k true) x=grown mt g fr dst (c0++cs) cs (k+m) n:=by
 obtain⟨m,rfl⟩:∃k,m=k+1:=⟨m-1,by omega⟩;simp only[Qq,hu,hs,hb,hz,hzl,if_true,Z3,ht,hx,appendTo,hr,hc,and_self]
theorem Qa2{c0:List V}{f s k:Nat}(hu:P.underlying t=some (.slice e))(hs:sz P e=some n)(hb:byt P e=some by_)(hz:zeroCells P e=some z)(hzl:z.length=n)(ht:P.underlying t2=some (.slice e2))
 (hx:Ql g n x=some (cs,m))(hm:0<m)(hr:Jl (k+m) by_=true)(_:Qx cs=true)(hsc:cs.all V.scalar=true)(hg:g f s=some (.grow k)):
 Qq P mt fr g dst t t2 (.gS f s c0 k n) x=some (.val (.gS f s (c0++cs) (k+m) n) (some (f,s,.grow (k+m)))):=by
 obtain⟨m,rfl⟩:∃k,m=k+1:=⟨m-1,by omega⟩;simp only[Qq,hu,hs,hb,hz,hzl,if_true,Z3,ht,hx,appendTo,hr,hsc,hg,and_self]
theorem Qqb{chk:List V}(hd:mt d=true)(hsc:cs.all V.scalar=true)(hg:g fr d=none):grown mt g fr (some d) cs chk m n=some (.val (.mS fr d 0 m none n) (some (fr,d,.cells cs))):=by simp only[grown,hd,if_true,hsc,new,hg]
theorem Xc{chk:List V}(hd:mt d=false)(_:Qx chk=true)(hg:g fr d=none):grown mt g fr (some d) cs chk m n=some (.val (.gS fr d cs m n) (some (fr,d,.grow m))):=by simp only[grown,hd,Zre,if_false,new,hg]
end
theorem Q2{P:Program}{mt:Nat->Bool}{fr:Nat}{g:Get}{d:Option Nat}{t t2:TypeId}{s x:V}:builtinV P mt fr g d .append #[t,t2] [s,x]=Qq P mt fr g d t t2 s x:=rfl
theorem Quw{P:Program}{mt:Nat->Bool}{fr:Nat}{g:Get}{d:Option Nat}{t t2:TypeId}{s x:V}:builtinV P mt fr g d .copy #[t,t2] [s,x]=Qbz P g t s x:=rfl
theorem Jj{m by_:Nat}(h:m*by_<=35184372088832)(h2:m<=35184372088832):Jl m by_=true:=by simp[Jl,h,h2]
theorem Ja(l:List UInt8):(Qb l).all V.scalar=true:=by simp[Qb,V.scalar]
theorem Qre(l:List Int):(Qr l).all V.scalar=true:=by simp[Qr,V.scalar]
end Go.AM
end
section
namespace Go.AM
theorem Qcr(g:Get)(n:Nat):∀l:List UInt8,Qt (frz g (n+1)) (Qb l)=some (Qb l)
 |[]=>rfl
 |b::l=>by
  have:=Qcr g n l;simp only[Qb,Zrw] at this⊢;exact Qa rfl this
theorem Qhg(g:Get)(n:Nat):∀l:List Int,Qt (frz g (n+1)) (Qr l)=some (Qr l)
 |[]=>rfl
 |b::l=>by
  have:=Qhg g n l;simp only[Qr,Zrw] at this⊢;exact Qa rfl this
theorem Jc{g:Get}{cs cs' :List V}(h:Qt (frz g 11) cs=some cs'):frz g depth (.tuple cs)=some (.tuple cs'):=by show(Qt (frz g 11) cs).map V.tuple=_;rw[h];rfl
section
variable {P : Program} {u e : TypeId} {g : Get}
theorem at_m(hu:P.underlying u=some (.slice e)){q:Nat}(hs:sz P e=some q){f s o len:Nat}{cap:Option Nat}{k:IntKind}{i:Int}(h0:0<=i)(hi:i<len):Qm P u (.mS f s o len cap q) (.int k i)=some (.ptr f s (o+i.toNat*q)):=by simp only[Qm,hu,hs];rw[if_pos ⟨h0,hi,trivial⟩]
theorem at_r(hu:P.underlying u=some (.slice e)){q:Nat}(hs:sz P e=some q){f s len:Nat}{cs:List V}{k:IntKind}{i:Int}(hp:Qx cs=false)(h0:0<=i)(hi:i<len):Qm P u (.gS f s cs len q) (.int k i)=some (.rptr cs (i.toNat*q)):=by simp only[Qm,hu,hs,hp,Zre,if_false];rw[if_pos ⟨h0,hi,trivial⟩]
theorem len_m(hu:P.underlying u=some (.slice e)){f s o len esz:Nat}{cap:Option Nat}:∀g,Y4 P g u (.mS f s o len cap esz)=some (.int .i64 len):=fun g=>by simp only[Y4,hu]
theorem Q4j(hu:P.underlying u=some (.slice e)){f s len esz:Nat}{cs:List V}:∀g,Y4 P g u (.gS f s cs len esz)=some (.int .i64 len):=fun g=>by simp only[Y4,hu]
end
theorem Qbs(p:Nat->Nat->Bool):∀l:List UInt8,Qi p (Qb l)=false
 |[]=>rfl
 |b::l=>by
  have:=Qbs p l;simp only[Qb,Zrw,Qi,V.refs,Zs2] at this⊢;exact this
theorem Q0.cells1{esz n:Nat}{v:V}{cells:List V}(h:Q0 esz v cells n):v.cells=some [v]:=by obtain⟨_,⟨rfl,_⟩|⟨f,rfl⟩⟩:=h<;>rfl
theorem Q54{k:IntKind}{n:Int}:(V.int k n).cells=some [.int k n]:=rfl
theorem Q2s{b:Bool}:(V.bool b).cells=some [.bool b]:=rfl
theorem Q6o{s:List UInt8}:(V.str s).cells=some [.str s]:=rfl
theorem Qv0:V.nP.cells=some [.nP]:=rfl
theorem Q7c{f s o:Nat}:(V.ptr f s o).cells=some [.ptr f s o]:=rfl
theorem Q10{c:List V}{o:Nat}:(V.iptr c o).cells=some [.iptr c o]:=rfl
theorem Qpv:V.nS.cells=some [.nS]:=rfl
theorem Qvt{c:List V}{n:Nat}{f:Bool}:(V.iS c n f).cells=some [.iS c n f]:=rfl
theorem Qtr{f s:Nat}{c:List V}{n e:Nat}:(V.gS f s c n e).cells=some [.gS f s c n e]:=rfl
theorem Qts{f s o n e:Nat}{c:Option Nat}:(V.mS f s o n c e).cells=some [.mS f s o n c e]:=rfl
theorem Quv:V.nM.cells=some [.nM]:=rfl
theorem Q59{f s:Nat}:(V.map f s).cells=some [.map f s]:=rfl
theorem Q1u{f:Fn}{a b:List V}:(V.func f a b).cells=some [.func f a b]:=rfl
theorem Qq8:V.nF.cells=some [.nF]:=rfl
theorem Qq4:V.nI.cells=some [.nI]:=rfl
theorem Q06{t:TypeId}{v:V}:(V.face t v).cells=some [.face t v]:=rfl
theorem Qbk{P:Program}{t e:TypeId}(hu:P.underlying t=some (.slice e)){x y:Operand}{cs:List V}{n:Nat}{f:Bool}:Zp P .eql t x y (.iS cs n f) .nS=some (.bool false):=by simp[Zp,Qkk,hu,Jm,Q3y,V.isNil]
theorem wrap_i64{n:Int}(h1: -9223372036854775808<=n)(h2:n<=9223372036854775807):(IntKind.i64).wrap n=n:=by rw[IntKind.wrap_i64];omega
theorem Qau{i:Nat}(h:i<9223372036854775807):(IntKind.i64).wrap ((i:Int)+1)=((i+1:Nat):Int):=by rw[wrap_i64]<;>omega
end Go.AM
end
section
namespace Go.AM
section
variable {P : Program} {u e : TypeId} {g : Get}
theorem Qxk(hu:P.underlying u=some (.slice e)){q:Nat}(hs:sz P e=some q){f s o len c:Nat}{w:Nat}{k:IntKind}(h:w<=len)(hc:len<=c):
 ∀g,Zh P g u (.mS f s o len (some c) q) (some (.int k w)) none none=some (.mS f s (if c=w then o else o+w*q) (len-w) (some (c-w)) q):=by
 intro g;simp only[Zh,Yj,hu,hs,if_true,Qps,Xs,Zsu,Zs3];rw[if_pos ⟨by omega,by omega,by omega,by omega,by omega,by omega,by simp⟩];simp
theorem Qtf(xs m:List UInt8)(o:Nat):splice (Qb xs) o (Qb m)=Qb (xs.take o++m++xs.drop (o+m.length)):=by simp[splice,Qb]
end
def FP.kind:FP->Nat
 | .quiet=>0
 | .ids _ []=>1
 |_=>2
def okK(bef:Array Nat):List (Nat×Nat)->Bool
 |[]=>true
 |(a,i)::r=>r.all (fun(b,j)=>(bef.getD j 0).testBit i||(Nat.ble a 1&&Nat.ble b 1))&&okK bef r
theorem Q0i:∀a b:FP,Nat.ble a.kind 1=true->Nat.ble b.kind 1=true->a.indep b=true
 | .quiet,_,_,_=>rfl
 | .ids _ [],.quiet,_,_=>rfl
 | .ids _ (_::_),.quiet,_,_=>rfl
 | .all,.quiet,_,_=>rfl
 | .ids _ [],.ids _ [],_,_=>rfl
 | .ids _ (_::_),_,h,_=>by cases h
 | .all,_,h,_=>by cases h
 |_,.ids _ (_::_),_,h=>by cases h
 |_,.all,_,h=>by cases h
theorem Qqz(bef:Array Nat):∀T:List (FP×Nat),okK bef (T.map fun x=>(x.1.kind,x.2))=true->okT bef T=true
 |[],_=>rfl
 |(a,i)::r,h=>by
  simp only[Zrw,okK,Zr1,Zr2] at h;simp only[okT,Zr1,Zr2];refine⟨fun x hx=>?_,Qqz bef r h.2⟩;have:=h.1 (x.1.kind,x.2) (Zr3.2 ⟨x,hx,rfl⟩);simp only[Zs4,Zr1] at this⊢;exact this.imp id fun⟨p,q⟩=>Q0i _ _ p q
theorem W.opsK{P:Program}{pol:Pol}{C:Call}{L:Ka->Kw}{fn fr:Nat}{t:List V}{H:Heap}{a:Array Oper}{T:List FP}{k:List It}{Q:Ex->List V->Heap->Prop}
 (h:okK (Region.before a) ((loud T.reverse).map fun x=>(x.1.kind,x.2))=true)(h2:W (U P pol C L fn fr k .normal t H) Q):W (U P pol C L fn fr (.opsT a [] T::k) .normal t H) Q:=
 W.opsT (Qqz _ _ h) h2
end Go.AM
end
section
namespace Go.AM
section
variable {P : Program} {t e : TypeId} {n : Nat} {y : V}
theorem Qiz(he:P.underlying e=some (.int .u8)):∀(ys:List (List V)),(∀y∈ys,Z2 P n e y)->∃l:List UInt8,ys.flatten=Qb l/\l.length=ys.length
 |[],_=>⟨[],rfl,rfl⟩
 |y::ys,h=>by
  obtain⟨l,h1,h2⟩:=Qiz he ys fun z hz=>h z (by simp[hz]);have hy:=h y (by simp);cases n with
  |zero=>exact hy.elim
  |succ n=>
   unfold Z2 at hy;rw[he] at hy;obtain⟨m,rfl,hm⟩:=hy;have hr:0<=m/\m<=255:=by simpa [Lit.wf,IntKind.min,IntKind.max,IntKind.signed,IntKind.bits] using hm
   refine⟨UInt8.ofNat m.toNat::l,?_,by simp[h2]⟩;simp only[List.flatten_cons,h1,Qb,Zrw,List.singleton_append,List.cons.injEq,and_true,V.int.injEq,true_and];have:(UInt8.ofNat m.toNat).toNat=m.toNat:=by simp[UInt8.toNat_ofNat'];omega
   rw[this];omega
end
theorem Qfk{P:Program}{s d e:TypeId}{g:Get}{x:V}{l:List UInt8}{n:Nat}(hs:P.underlying s=some (.slice e))(he:P.underlying e=some (.int .u8))(hd:P.underlying d=some .string)(h:Ql g 1 x=some (Qb l,n)):
 convertV P g s d x=some (.val (.str l) none):=by
 have hn:∀l,x≠ .str l:=by intro l e;subst e;simp[Ql] at h
 have hn2:∀k m,x≠ .int k m:=by intro k m e;subst e;simp[Ql] at h
 simp only[convertV,hs,hd,he,h,Qb8,Zrb]
end Go.AM
end
