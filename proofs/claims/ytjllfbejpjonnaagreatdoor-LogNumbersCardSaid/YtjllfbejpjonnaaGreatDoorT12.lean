/- This file holds in one the texts An30, An31, An32, An33, An34, An37, An40, An41, An48, An52, An54, An36, An51; each says at its head what it proves. -/
import Derived.Test.YtjllfbejpjonnaaGreatDoorT10
import Derived.Test.YtjllfbejpjonnaaGreatDoorT11
set_option linter.unusedSimpArgs false
set_option linter.unusedVariables false
section
namespace Go.AM
def W(X:Out)(Q:Ex->List V->Heap->Prop):Prop:=match X with
 |some (e,t,H)=>Q e t H
 |none=>False
theorem W.mono{X:Out}{Q Q' :Ex->List V->Heap->Prop}(h:W X Q)(k:∀e t H,Q e t H->Q' e t H):W X Q' :=by
 cases X with
 |none=>exact h
 |some x=>exact k _ _ _ h
theorem W.out{X:Out}{Q:Ex->List V->Heap->Prop}(h:W X Q):∃e t H,X=some (e,t,H)/\Q e t H:=by
 cases X with
 |none=>exact h.elim
 |some x=>exact⟨_,_,_,rfl,h⟩
section
variable {P : Program} {pol : Pol} {C : Call} {L : Kg -> Kz} {fn fr : Nat} {t : List V} {H : Heap} {d : Option Nat} {k k' : List It} {Q : Ex -> List V -> Heap -> Prop}
theorem W.done{e:Ex}(h:Q e t H):W (some (e,t,H)) Q:=h
theorem W.ite{b:Bool}(h1:b=true->W (U P pol C L fn fr k .normal t H) Q)(h2:b=false->W (U P pol C L fn fr k' .normal t H) Q):W (UI P pol C L fn fr (.bool b) k k' t H) Q:=by
 cases b with
 |true=>exact h1 rfl
 |false=>exact h2 rfl
theorem W.guard{b want:Bool}(h1:b=want->W (U P pol C L fn fr k .normal t H) Q)(h2:b=(!want)->W (U P pol C L fn fr k' .normal (Q1 t d nov) H) Q):W (UG P pol C L fn fr (some (.bool b)) want k k' d t H) Q:=by
 unfold UG;by_cases h:b=want
 . simp only[h,if_true];exact h1 h
 . simp only[h,if_false];exact h2 (by cases b<;>cases want<;>simp_all)
theorem W.guardT{b:Bool}(h1:b=true->W (U P pol C L fn fr k .normal t H) Q)(h2:b=false->W (U P pol C L fn fr k' .normal (Q1 t d nov) H) Q):W (UG P pol C L fn fr (some (.bool b)) true k k' d t H) Q:=W.guard h1 h2
theorem W.guardF{b:Bool}(h1:b=false->W (U P pol C L fn fr k .normal t H) Q)(h2:b=true->W (U P pol C L fn fr k' .normal (Q1 t d nov) H) Q):W (UG P pol C L fn fr (some (.bool b)) false k k' d t H) Q:=W.guard h1 h2
theorem W.ul{X:Out}(h:W X fun e t H=>W (U P pol C L fn fr k e t H) Q):W (UL P pol C L fn fr X k) Q:=by
 cases X with
 |none=>exact h.elim
 |some x=>exact h
theorem W.loop{α:Type}{b:Code}(I:α->List V->Heap->Prop)(m:α->Nat)
 (step:∀a t H,I a t H->∃t1 H1,forget pol fn fr (Zt b) t H=some (t1,H1)/\W (U P pol C Z4 fn fr [.code b] .normal t1 H1) fun e t2 H2=>match e with
   | .normal=>∃a',I a' t2 H2/\m a' <m a
   |e=>Q e t2 H2)(a:α)(h:I a t H)(hn:Z0 b=none:=by rfl):W (Z4 (round P pol C Z4 fn fr b) t H) Q:=by
 induction hm:m a using Nat.strongRecOn generalizing a t H with
 |ind n ih=>
  subst hm;obtain⟨t1,H1,h1,h2⟩:=step a t H h;obtain⟨e,t2,H2,h3,h4⟩:=h2.out;rw[Q5g ((Q7t hn h1).trans (by rw[h3]))];cases e with
  |normal=>
   obtain⟨a',h5,h6⟩:=h4;exact ih _ h6 a' h5 rfl
  |exit i=>exact h4
  |ret=>exact h4
  |panic v=>exact h4
theorem W.loopS{α:Type}{b:Code}{kt:List Nat}(hk:pol.keep fn (Zt b)=some (kt,[]))(S:α->List V)(HS:α->Heap)(I:α->Prop)(m:α->Nat)
 (step:∀a,I a->W (U P pol C Z4 fn fr [.code b] .normal (S a) (HS a)) fun e t2 H2=>match e with
   | .normal=>∃a',Jg kt t2 0=S a' /\H2=HS a' /\I a' /\m a' <m a
   |e=>Q e t2 H2)(a:α)(h:I a)(ht:Jg kt t 0=S a)(hH:H=HS a)(hn:Z0 b=none:=by rfl)(hm:pol.move fn (Zt b)=none:=by rfl):W (Z4 (round P pol C Z4 fn fr b) t H) Q:=by
 refine W.loop (Q:=Q) (fun a t H=>Jg kt t 0=S a/\H=HS a/\I a) m ?_ a ⟨ht,hH,h⟩ hn;rintro a t H ⟨h1,h2,h3⟩;refine⟨S a,HS a,by rw[Zx hk hm,h1,h2],(step a h3).mono ?_⟩;intro e t2 H2 h4;cases e with
 |normal=>obtain⟨a',q1,q2,q3,q4⟩:=h4;exact⟨a',⟨q1,q2,q3⟩,q4⟩
 |exit i=>exact h4
 |ret=>exact h4
 |panic v=>exact h4
def End(P:Program)(F:Func)(b:Nat)(R:Rt->Heap->Prop)(e:Ex)(t:List V)(H:Heap):Prop:=match e with
 | .normal| .ret=>∃v,Qcb P F t H=some v/\R (.ret v) (Yk b v H)
 | .panic v=>R (.pan v) (Yk b v H)
 | .exit _=>False
theorem End.ret{F:Func}{b:Nat}{R:Rt->Heap->Prop}{v:V}(h:Qcb P F t H=some v)(h2:R (.ret v) (Yk b v H)):End P F b R .ret t H:=⟨v,h,h2⟩
theorem End.normal{F:Func}{b:Nat}{R:Rt->Heap->Prop}{v:V}(h:Qcb P F t H=some v)(h2:R (.ret v) (Yk b v H)):End P F b R .normal t H:=⟨v,h,h2⟩
def CW(P:Program)(pol:Pol)(f:FuncId)(args:List V)(H:Heap)(R:Rt->Heap->Prop):Prop:=∃r H',Qn P pol f args H=some (r,H')/\R r H'
theorem CW.mono{f:FuncId}{args:List V}{R R' :Rt->Heap->Prop}(h:CW P pol f args H R)(k:∀r H',R r H' ->R' r H'):CW P pol f args H R' :=by obtain⟨r,H',h1,h2⟩:=h;exact⟨r,H',h1,k _ _ h2⟩
theorem Zu{f:FuncId}{F:Func}{c:Code}{args:List V}{R:Rt->Heap->Prop}(hF:P.funcs[f]?=some F)(hc:F.body=some c)
 (h:W (U P pol (Qn P pol) Z4 f H.length [.code c] .normal (args++List.replicate (F.ntmps-args.length) .bad) (H++[[]])) (End P F H.length R))(hs:pol.settle f=[]:=by rfl):CW P pol f args H R:=by
 obtain⟨e,t',H',h1,h2⟩:=h.out;have key:∀r,Qqs P F H.length (some (e,t',H'))=some r->Qn P pol f args H=some r:=fun r hr=>Zcp hF hc (by rw[h1];exact hr) hs;cases e with
 |normal=>
  obtain⟨v,h3,h4⟩:=h2;exact⟨_,_,key (.ret v,Yk H.length v H') (by simp only[Qqs,h3]),h4⟩
 |ret=>
  obtain⟨v,h3,h4⟩:=h2;exact⟨_,_,key (.ret v,Yk H.length v H') (by simp only[Qqs,h3]),h4⟩
 |exit i=>exact h2.elim
 |panic v=>exact⟨_,_,key (.pan v,Yk H.length v H') rfl,h2⟩
def Fz(P:Program)(pol:Pol)(f:FuncId)(args:List V)(R:V->Prop):Prop:=∃v H' v',Qn P pol f args []=some (.ret v,H')/\frz (Qd H') depth v=some v' /\R v'
theorem Fz.mono{f:FuncId}{args:List V}{R R' :V->Prop}(h:Fz P pol f args R)(k:∀v,R v->R' v):Fz P pol f args R' :=by obtain⟨v,H',v',h1,h2,h3⟩:=h;exact⟨v,H',v',h1,h2,k _ h3⟩
theorem Fz.of_cw{f:FuncId}{args:List V}{R:V->Prop}(h:CW P pol f args [] fun r H' =>∃v,r= .ret v/\∃v',frz (Qd H') depth v=some v' /\R v'):Fz P pol f args R:=by obtain⟨r,H',h1,v,rfl,v',h2,h3⟩:=h;exact⟨v,H',v',h1,h2,h3⟩
theorem Fz.op' {f:FuncId}{args args' :List V}{R:V->Prop}(h:Fz P pol f args' R)(hp:pol.prim f=none)(ha:Q5 (frz (fun _ _=>none) depth) args=some args'):
 ∃v,R v/\∀(fn fr:Nat) (d:Option Nat) (H:Heap),pol.pure fn f=true->callOp pol (Qn P pol) fn fr d f args H=some (.ret v,H):=by
 obtain⟨v,H',v',h1,h2,h3⟩:=h;exact⟨v',h3,fun fn fr d H hq=>Qnl hp hq ha h1 h2⟩
theorem Fz.op{f:FuncId}{args:List V}{R:V->Prop}(h:Fz P pol f args R)(hp:pol.prim f=none)(ha:Q5 (frz (fun _ _=>none) depth) args=some args):
 ∃v,R v/\∀(fn fr:Nat) (d:Option Nat) (H:Heap),pol.pure fn f=true->callOp pol (Qn P pol) fn fr d f args H=some (.ret v,H):=by
 obtain⟨v,H',v',h1,h2,h3⟩:=h;exact⟨v',h3,fun fn fr d H hq=>Qnl hp hq ha h1 h2⟩
theorem Za{f:FuncId}{args:List V}{r:Rt×Heap}(hp:pol.prim f=none)(hq:pol.pure fn f=false)(ht:pol.thin fn f=false)(h:Qn P pol f args H=some r)(hl:pol.lift fn f=false:=by rfl)(hk:pol.look fn f=false:=by rfl)(hz:pol.peek fn f=false:=by rfl):callOp pol (Qn P pol) fn fr d f args H=some r:=by simp only[callOp,hp,hq,hl,hk,hz,Qk3,Qdm,ht,Zn5,if_false,h]
theorem Qy3{f:FuncId}{args:List V}{v:V}(hp:pol.prim f=none)(hq:pol.pure fn f=false)(ht:pol.thin fn f=false)(h:Qn P pol f args H=some (.ret v,H))(hl:pol.lift fn f=false:=by rfl)(hk:pol.look fn f=false:=by rfl):callOp pol (Qn P pol) fn fr d f args H=some (.ret v,H):=by simp only[callOp,hp,hq,hl,hk,Qdm,ht,Zn5,if_false,h,Q77]
theorem Qnn{f:FuncId}{args args' :List V}{r:Rt×Heap}(hp:pol.prim f=none)(hq:pol.pure fn f=false)(ht:pol.thin fn f=true)(ha:Q5 (frz (fun _ _=>none) depth) args=some args')(h:Qn P pol f args' H=some r)(hl:pol.lift fn f=false:=by rfl)(hk:pol.look fn f=false:=by rfl)(hz:pol.peek fn f=false:=by rfl):
 callOp pol (Qn P pol) fn fr d f args H=some r:=by
 simp only[callOp,hp,hq,hl,hk,hz,Qk3,Qdm,ht,if_true,ha,Zn5,if_false,h]
end
theorem Qqv(g g' :Get):∀(n:Nat),(∀v:V,v.refs (fun _ _=>true)=false->frz g n v=frz g' n v)
 |0=>fun _ _=>rfl
 |n+1=>by
  have ih:=Qqv g g' n;have ihL:∀l:List V,Qi (fun _ _=>true) l=false->Q5 (frz g n) l=Q5 (frz g' n) l:=by
   intro l
   induction l with
   |nil=>intro _;rfl
   |cons x l ihl=>
    intro h;simp only[Qi,Zox] at h;simp only[Q5,ih x h.1,ihl h.2]
  intro v h;cases v with
  |ptr=>simp[V.refs] at h
  |gS=>simp[V.refs] at h
  |mS=>simp[V.refs] at h
  |map=>simp[V.refs] at h
  |func fn a b=>
   simp only[V.refs,Zox] at h;simp only[frz,ihL a h.1,ihL b h.2]
  |face t x=>simp only[V.refs] at h;simp only[frz,ih x h]
  |agg cs=>simp only[V.refs] at h;simp only[frz,ihL cs h]
  |tuple cs=>simp only[V.refs] at h;simp only[frz,ihL cs h]
  |rptr cs o=>simp only[V.refs] at h;simp only[frz,ihL cs h]
  |_=>rfl
theorem Zbj{p q:Nat->Nat->Bool}(h:∀a b,p a b=q a b)(v:V):v.refs p=v.refs q:=by
 have:p=q:=by funext a b;exact h a b
 rw[this]
theorem Qxf(v:V)(H:Heap)(n:Nat):frz (Qd (Yk 0 v H)) n v=frz (Qd H) n v:=by
 unfold Yk;split
 . rename_i h;simp only[Zok,Zoy] at h;apply Qqv;rw[<-h.1];exact Zbj (fun a b=>by simp) v
 . rfl
section
variable {P : Program} {pol : Pol}
def Q0(P:Program)(F:Func)(R:V->Prop)(e:Ex)(t:List V)(H:Heap):Prop:=match e with
 | .normal| .ret=>∃v v',Qcb P F t H=some v/\frz (Qd H) depth v=some v' /\R v'
 |_=>False
theorem Q0.ret{F:Func}{R:V->Prop}{t:List V}{H:Heap}{v v' :V}(h:Qcb P F t H=some v)(h1:frz (Qd H) depth v=some v')(h2:R v'):Q0 P F R .ret t H:=⟨v,v',h,h1,h2⟩
theorem Q0.normal{F:Func}{R:V->Prop}{t:List V}{H:Heap}{v v' :V}(h:Qcb P F t H=some v)(h1:frz (Qd H) depth v=some v')(h2:R v'):Q0 P F R .normal t H:=⟨v,v',h,h1,h2⟩
theorem Zm{f:FuncId}{F:Func}{c:Code}{args:List V}{R:V->Prop}(hF:P.funcs[f]?=some F)(hc:F.body=some c)
 (h:W (U P pol (Qn P pol) Z4 f 0 [.code c] .normal (args++List.replicate (F.ntmps-args.length) .bad) [[]]) (Q0 P F R))(hs:pol.settle f=[]:=by rfl):Fz P pol f args R:=by
 apply Fz.of_cw;refine Zu hF hc (h.mono ?_) hs;intro e t H h;cases e with
 |normal=>obtain⟨v,v',h1,h2,h3⟩:=h;exact⟨v,h1,v,rfl,v',by rw[<-h2];exact Qxf v H depth,h3⟩
 |ret=>obtain⟨v,v',h1,h2,h3⟩:=h;exact⟨v,h1,v,rfl,v',by rw[<-h2];exact Qxf v H depth,h3⟩
 |exit i=>exact h.elim
 |panic v=>exact h.elim
end
def Qw(esz:Nat)(v:V)(cells:List V)(n:Nat):Prop:=cells.length=n*esz/\((v= .nS/\n=0)\/∃full,v= .iS cells n full)
theorem Qw.mk{esz:Nat}{cells:List V}{n:Nat}{full:Bool}(h:cells.length=n*esz):Qw esz (.iS cells n full) cells n:=⟨h,.inr ⟨full,rfl⟩⟩
theorem Qw.nil{esz:Nat}:Qw esz .nS [] 0:=⟨by simp,.inl ⟨rfl,rfl⟩⟩
section
variable {P : Program} {esz n : Nat} {v : V} {cells : List V} {u e : TypeId} {g : Get} {k : IntKind}
theorem Qw.frz(h:Qw esz v cells n)(m:Nat):AM.frz g (m+1) v=some v:=by obtain⟨_,⟨rfl,_⟩|⟨f,rfl⟩⟩:=h<;>rfl
theorem Qw.len(hu:P.underlying u=some (.slice e))(h:Qw esz v cells n):∀g,Ku P g u v=some (.int .i64 n):=by
 intro g;obtain⟨_,⟨rfl,rfl⟩|⟨f,rfl⟩⟩:=h
 . exact Ql9 hu
 . exact Qh5 hu _ _ _
theorem Qw.at(hu:P.underlying u=some (.slice e))(hs:sz P e=some esz)(he:0<esz)(h:Qw esz v cells n){i:Int}(h0:0<=i)(hi:i<n):Qm P u v (.int k i)=some (.iptr cells (i.toNat*esz)):=by
 obtain⟨hl,⟨rfl,rfl⟩|⟨f,rfl⟩⟩:=h
 . omega
 . rw[ia_of hu hs,if_pos ⟨h0,hi,hl,he⟩]
theorem Qw.sc(h:Qw esz v cells n):Qk g esz v=some (cells,n):=by
 obtain⟨hl,⟨rfl,rfl⟩|⟨f,rfl⟩⟩:=h
 . have:cells=[]:=Zoz (by simpa using hl);subst this;rfl
 . simp[Qk,hl]
theorem Qw.noRefs(h:Qw esz v cells n)(p:Nat->Nat->Bool):v.refs p=false:=by obtain⟨_,⟨rfl,_⟩|⟨f,rfl⟩⟩:=h<;>rfl
theorem Qw.pure(h:Qw esz v cells n):v.pure=true:=by obtain⟨_,⟨rfl,_⟩|⟨f,rfl⟩⟩:=h<;>rfl
end
theorem Zb5{cells:List V}{n esz:Nat}{full:Bool}(hl:cells.length=n*esz)(lo hi:Option Int)(h0:0<=lo.getD 0)(h1:lo.getD 0<=hi.getD n)(h2:hi.getD n<=n):
 ∃f,Qll cells n full esz lo hi none=some (.iS ((cells.drop ((lo.getD 0).toNat*esz)).take (((hi.getD n).toNat-(lo.getD 0).toNat)*esz)) ((hi.getD n).toNat-(lo.getD 0).toNat) f):=by
 refine⟨(full||(none:Option Int).isSome)&&((n:Int).toNat==(hi.getD n).toNat),?_⟩;simp only[Qll,hl,if_true,Xh,Zo0];rw[if_pos ⟨by omega,by omega,by omega,by omega,h0,h1,by simp⟩]
theorem Qw.cut{P:Program}{esz n:Nat}{v:V}{cells:List V}{u e:TypeId}(hu:P.underlying u=some (.slice e))(hs:sz P e=some esz)(h:Qw esz v cells n)(lo hi:Option Int)
 (h0:0<=lo.getD 0)(h1:lo.getD 0<=hi.getD n)(h2:hi.getD n<=n):
 ∃w,(∀g,Zn P g u v (lo.map (.int .i64)) (hi.map (.int .i64)) none=some w)/\Qw esz w ((cells.drop ((lo.getD 0).toNat*esz)).take (((hi.getD n).toNat-(lo.getD 0).toNat)*esz)) ((hi.getD n).toNat-(lo.getD 0).toNat):=by
 have ol:Jt (lo.map (.int .i64))=some lo:=by cases lo<;>rfl
 have oh:Jt (hi.map (.int .i64))=some hi:=by cases hi<;>rfl
 have on:Jt none=some none:=rfl;obtain⟨hl,⟨rfl,rfl⟩|⟨f,rfl⟩⟩:=h
 . refine⟨.nS,fun g=>?_,?_⟩
   . simp only[Zn,ol,oh,on,hu,hs,Xh];rw[if_pos ⟨by simp,by simp,by simp only[Int.natCast_zero] at*;omega,by simp at*;omega,h0,h1,by simp⟩]
   . have:cells=[]:=Zoz (by simpa using hl);subst this;have e:(hi.getD (0:Nat)).toNat-(lo.getD 0).toNat=0:=by omega
     rw[e];exact⟨by simp,.inl ⟨rfl,rfl⟩⟩
 . obtain⟨f',e⟩:=Zb5 (full:=f) hl lo hi h0 h1 h2;refine⟨_,fun g=>?_,Qw.mk (full:=f') ?_⟩
   . simp only[Zn,ol,oh,on,hu,hs];exact e
   . rw[Zo1,Zo2,hl,<-Nat.sub_mul];apply Nat.min_eq_left;apply Zo3;omega
def Qe(v:V)(l:List UInt8):Prop:=Qw 1 v (Qb l) l.length
theorem Qy(l:List UInt8):(Qb l).length=l.length:=by simp[Qb]
theorem Qeh(l:List UInt8)(i:Nat):(Qb l)[i]?=(l[i]?).map fun b=> .int .u8 b.toNat:=by simp[Qb]
theorem Qbc(l:List UInt8)(n:Nat):(Qb l).take n=Qb (l.take n):=by simp[Qb]
theorem Qlq(l:List UInt8)(n:Nat):(Qb l).drop n=Qb (l.drop n):=by simp[Qb]
theorem K9(l m:List UInt8):Qb (l++m)=Qb l++Qb m:=by simp[Qb]
theorem Qe.mk(l:List UInt8)(full:Bool):Qe (.iS (Qb l) l.length full) l:=Qw.mk (by simp[Qy])
theorem Qe.nil:Qe .nS []:=Qw.nil
theorem Qcj:∀l:List UInt8,AM.bytesOf (Qb l)=some l
 |[]=>rfl
 |b::l=>by
  have:=Qcj l;simp only[Qb,Zo4,AM.bytesOf] at this⊢;rw[this];simp
theorem Qe.bytesV{v:V}{l:List UInt8}{g:Get}(h:Qe v l):bytesV g v=some l:=by have hc:=Qw.sc (g:=g) h;obtain⟨_,⟨rfl,_⟩|⟨f,rfl⟩⟩:=h<;>simp only[AM.bytesV,hc,Qcj]
theorem Qe.cut{P:Program}{v:V}{l:List UInt8}{u e:TypeId}(hu:P.underlying u=some (.slice e))(hs:sz P e=some 1)(h:Qe v l)(lo hi:Option Int)
 (h0:0<=lo.getD 0)(h1:lo.getD 0<=hi.getD l.length)(h2:hi.getD l.length<=l.length):
 ∃w,(∀g,Zn P g u v (lo.map (.int .i64)) (hi.map (.int .i64)) none=some w)/\Qe w ((l.drop (lo.getD 0).toNat).take ((hi.getD l.length).toNat-(lo.getD 0).toNat)):=by
 obtain⟨w,h3,h4⟩:=Qw.cut hu hs h lo hi h0 h1 h2;refine⟨w,h3,?_⟩;simp only[Zof,Qlq,Qbc] at h4;unfold Qe;rwa[show((l.drop (lo.getD 0).toNat).take ((hi.getD l.length).toNat-(lo.getD 0).toNat)).length=(hi.getD l.length).toNat-(lo.getD 0).toNat by rw[Zo1,Zo2];omega]
def Qz(l:List Int):List V:=l.map fun i=> .int .i64 i
def Xg(v:V)(l:List Int):Prop:=Qw 1 v (Qz l) l.length
theorem Bb(l:List Int):(Qz l).length=l.length:=by simp[Qz]
theorem Q2m(l:List Int)(i:Nat):(Qz l)[i]?=(l[i]?).map fun b=> .int .i64 b:=by simp[Qz]
theorem Xg.mk(l:List Int)(full:Bool):Xg (.iS (Qz l) l.length full) l:=Qw.mk (by simp[Bb])
theorem Ja(l:List UInt8):Qu (Qb l)=true:=by
 induction l with
 |nil=>rfl
 |cons b l ih=>simp only[Qb,Zo4,Qu,V.pure,Zo5] at ih⊢;exact ih
def Q1d(pol:Pol)(fn fr:Nat)(d:Option Nat)(ids:List (Nat×Nat))(f:FuncId):FP:=
 if(pol.prim f).isNone&&pol.pure fn f then .quiet else if(pol.prim f).isNone&&pol.lift fn f then(match d with
  |some d=> .ids ids [(fr,d)]
  |none=> .all) else if(pol.prim f).isNone&&!pol.look fn f&&pol.peek fn f then .peek else .all
section
variable (P : Program) (pol : Pol) (C : Call) (L : Kg -> Kz) (fn fr : Nat)
def UCT(X:Option (Rt×Heap))(d:Option Nat)(k:List It)(t:List V):Out:=match X with
 |some (.ret v,H)=>U P pol C L fn fr k .normal (Q1 t d v) H
 |_=>none
def UST(q far:Bool)(ids:List (Nat×Nat))(X:Option Zo)(d:Option Nat)(a:Array Oper)(r:List Oper)(T:List FP)(k:List It)(t:List V)(H:Heap):Out:=match X with
 |some (.val v none)=>U P pol C L fn fr (.opsT a r ((if q then .quiet else if far then .all else .ids ids [])::T)::k) .normal (Q1 t d v) H
 |some (.val v (some (f,s,o)))=>U P pol C L fn fr (.opsT a r ((if q then .quiet else if far then .all else .ids ids [(f,s)])::T)::k) .normal (Q1 t d v) (hset H f s o)
 |some (.round f s args)=>UR P pol C L fn fr (C none (.yield f s::args) H) d (.opsT a r ((if q then .quiet else .all)::T)::k) t
 |some (.call f args)=>UCT P pol C L fn fr (callOp pol C fn fr d f args H) d (.opsT a r ((if q then .quiet else if far then .all else Q1d pol fn fr d ids f)::T)::k) t
 |_=>none
def UGT(v:Option V)(want:Bool)(o:Oper)(d:Option Nat)(a:Array Oper)(r:List Oper)(T:List FP)(k:List It)(t:List V)(H:Heap):Out:=match v with
 |some (.bool b)=>if b=want then U P pol C L fn fr (.opsT a (o::r) T::k) .normal t H else U P pol C L fn fr (.opsT a r (.quiet::T)::k) .normal (Q1 t d nov) H
 |some (.tuple [])=>U P pol C L fn fr (.opsT a r (.quiet::T)::k) .normal (Q1 t d nov) H
 |_=>none
end
section
variable {P : Program} {pol : Pol} {C : Call} {L : Kg -> Kz} {fn fr : Nat} {r : List Oper} {t : List V} {H : Heap} {d : Option Nat} {ty u : TypeId} {ps : String} {af : Array Edge} {x y z : Operand} {k : List It} {v : V} {a : Array Oper} {T : List FP}
theorem Zb7:UCT P pol C L fn fr (some (.ret v,H)) d k t=U P pol C L fn fr k .normal (Q1 t d v) H:=rfl
theorem Zes{q far:Bool}{ids:List (Nat×Nat)}:UST P pol C L fn fr q far ids (some (.val v none)) d a r T k t H=U P pol C L fn fr (.opsT a r ((if q then .quiet else if far then .all else .ids ids [])::T)::k) .normal (Q1 t d v) H:=rfl
theorem Zb6{q far:Bool}{ids:List (Nat×Nat)}{f s:Nat}{o:O}:UST P pol C L fn fr q far ids (some (.val v (some (f,s,o)))) d a r T k t H=U P pol C L fn fr (.opsT a r ((if q then .quiet else if far then .all else .ids ids [(f,s)])::T)::k) .normal (Q1 t d v) (hset H f s o):=rfl
theorem Q8k{q far:Bool}{ids:List (Nat×Nat)}{f:FuncId}{args:List V}:UST P pol C L fn fr q far ids (some (.call f args)) d a r T k t H=
 UCT P pol C L fn fr (callOp pol C fn fr d f args H) d (.opsT a r ((if q then .quiet else if far then .all else Q1d pol fn fr d ids f)::T)::k) t:=rfl
theorem ugt_tt{o:Oper}:UGT P pol C L fn fr (some (.bool true)) true o d a r T k t H=U P pol C L fn fr (.opsT a (o::r) T::k) .normal t H:=rfl
theorem ugt_ff{o:Oper}:UGT P pol C L fn fr (some (.bool false)) false o d a r T k t H=U P pol C L fn fr (.opsT a (o::r) T::k) .normal t H:=rfl
theorem ugt_tf{o:Oper}:UGT P pol C L fn fr (some (.bool true)) false o d a r T k t H=U P pol C L fn fr (.opsT a r (.quiet::T)::k) .normal (Q1 t d nov) H:=rfl
theorem ugt_ft{o:Oper}:UGT P pol C L fn fr (some (.bool false)) true o d a r T k t H=U P pol C L fn fr (.opsT a r (.quiet::T)::k) .normal (Q1 t d nov) H:=rfl
theorem ugt_no{want:Bool}{o:Oper}:UGT P pol C L fn fr (some (.tuple [])) want o d a r T k t H=U P pol C L fn fr (.opsT a r (.quiet::T)::k) .normal (Q1 t d nov) H:=rfl
theorem Qlu{o:Oper}(hw:Z1 a t o=some true):U P pol C L fn fr (.opsT a (o::r) T::k) .normal t H=match Zi P pol C fn fr t H o with
 |some (.normal,t1,H1)=>U P pol C L fn fr (.opsT a r (Jp P pol fn fr t H o::T)::k) .normal t1 H1
 |_=>none:=by
 simp only[U,Zb,hw];cases Zi P pol C fn fr t H o with
 |none=>rfl
 |some x=>
  obtain⟨e,t1,H1⟩:=x;cases e with
  |normal=>
   simp only;cases Zb P pol C fn fr a r t1 H1 with
   |none=>rfl
   |some y=>
    obtain⟨t2,H2,T2⟩:=y;simp only[Zow,List.reverse_cons,Zo6,Zo7]
  |_=>rfl
theorem w_opT{op:Op}:U P pol C L fn fr (.opsT a ({dst:=d,op:=op,type:=ty,pos:=ps,after:=af,guard:=none}::r) T::k) .normal t H=
 UST P pol C L fn fr (Zk op) (Kf op) (Ka fr (rho t) {dst:=d,op:=op,type:=ty,pos:=ps,after:=af,guard:=none}) (Zv P (pol.mt fn) fr (Qd H) (rho t) {dst:=d,op:=op,type:=ty,pos:=ps,after:=af,guard:=none}) d a r T k t H:=by
 rw[Qlu rfl];simp only[Zi,Jp];cases Zv P (pol.mt fn) fr (Qd H) (rho t) {dst:=d,op:=op,type:=ty,pos:=ps,after:=af,guard:=none} with
 |none=>rfl
 |some s=>
  cases s with
  |val v w=>
   cases w with
   |none=>simp only[UST,wr]
   |some w=>obtain⟨f,s,o⟩:=w;simp only[UST,wr]
  |panic v=>rfl
  |call f args=>
   simp only[UST,UCT,Q1d];cases callOp pol C fn fr d f args H with
   |none=>rfl
   |some q=>obtain⟨q,H'⟩:=q;cases q<;>rfl
  |round f s args=>
   simp only[UST,UR];cases C none (.yield f s::args) H with
   |none=>rfl
   |some q=>obtain⟨q,H'⟩:=q;cases q with
    |ret v=>
     simp only;cases Zk op<;>cases Kf op<;>rfl
    |pan v=>rfl
theorem Q85{op:Op}{j:Nat}{want:Bool}:U P pol C L fn fr (.opsT a ({dst:=d,op:=op,type:=ty,pos:=ps,after:=af,guard:=some (j,want)}::r) T::k) .normal t H=
 UGT P pol C L fn fr (gd a t j) want {dst:=d,op:=op,type:=ty,pos:=ps,after:=af,guard:=none} d a r T k t H:=by
 have e:Z1 a t {dst:=d,op:=op,type:=ty,pos:=ps,after:=af,guard:=some (j,want)}=match gd a t j with
  |some (.bool b)=>some (b==want)
  |some (.tuple [])=>some false
  |_=>none:=rfl
 have hf:∀t,(match Zb P pol C fn fr a r (Q1 t d nov) H with
  |some (t',H',T)=>some (t',H',FP.quiet::T)
  |none=>none).bind (fun x=>if okT (Region.before a) (loud (T.reverse++x.2.2))=true then U P pol C L fn fr k .normal x.1 x.2.1 else none)=U P pol C L fn fr (.opsT a r (.quiet::T)::k) .normal (Q1 t d nov) H:=by
  intro t;simp only[U];cases Zb P pol C fn fr a r (Q1 t d nov) H with
  |none=>rfl
  |some y=>simp only[Zow,List.reverse_cons,Zo6,Zo7]
 cases hg:gd a t j with
 |none=>simp only[U,Zb,e,hg,UGT];rfl
 |some v=>
  rw[hg] at e;cases v with
  |bool b=>
   by_cases hb:b=want
   . subst hb;have e' :Z1 a t {dst:=d,op:=op,type:=ty,pos:=ps,after:=af,guard:=some (j,b)}=some true:=by rw[e];simp
     rw[Qlu e'];simp only[UGT,if_true];rw[Qlu rfl];rfl
   . have e' :Z1 a t {dst:=d,op:=op,type:=ty,pos:=ps,after:=af,guard:=some (j,want)}=some false:=by rw[e];simp[hb]
     simp only[UGT,hb,if_false];rw[<-hf t];simp only[U,Zb,e'];rfl
  |tuple l=>
   cases l with
   |nil=>
    simp only[UGT];rw[<-hf t];simp only[U,Zb,e];rfl
   |cons x l=>simp only[U,Zb,e,UGT];rfl
  |_=>simp only[U,Zb,e,UGT];rfl
theorem Q1z(h:okT (Region.before a) (loud T.reverse)=true):U P pol C L fn fr (.opsT a [] T::k) .normal t H=U P pol C L fn fr k .normal t H:=by rw[Q0q,if_pos h]
end
theorem W.opsT{P:Program}{pol:Pol}{C:Call}{L:Kg->Kz}{fn fr:Nat}{t:List V}{H:Heap}{a:Array Oper}{T:List FP}{k:List It}{Q:Ex->List V->Heap->Prop}
 (h:okT (Region.before a) (loud T.reverse)=true)(h2:W (U P pol C L fn fr k .normal t H) Q):W (U P pol C L fn fr (.opsT a [] T::k) .normal t H) Q:=by
 rw[Q1z h];exact h2
theorem Qpb(H G:Heap)(i s:Nat):Qd (H++G) (H.length+i) s=Qd G i s:=by unfold Qd;rw[Zop (by omega),Nat.add_sub_cancel_left]
theorem J9(H G:Heap)(s:Nat):Qd (H++G) H.length s=Qd G 0 s:=Qpb H G 0 s
theorem Q5v(F:Frame)(G:Heap)(s:Nat):Qd (F::G) 0 s=Xx F s:=rfl
theorem Q6a(F:Frame)(G:Heap)(i s:Nat):Qd (F::G) (i+1) s=Qd G i s:=rfl
theorem Qdi{α:Type}(f:α->α):∀(H G:List α) (i:Nat),(H++G).modify (H.length+i) f=H++G.modify i f
 |[],G,i=>by simp
 |x::H,G,i=>by
  rw[Zo8,show(x::H).length+i=(H.length+i)+1 by simp;omega,List.modify_succ_cons,Qdi f H G i,Zo8]
theorem Qyq(H G:Heap)(i s:Nat)(o:O):hset (H++G) (H.length+i) s o=H++hset G i s o:=by unfold hset;exact Qdi _ H G i
theorem X9(H G:Heap)(s:Nat)(o:O):hset (H++G) H.length s o=H++hset G 0 s o:=Qyq H G 0 s o
theorem Q5j(F:Frame)(G:Heap)(s:Nat)(o:O):hset (F::G) 0 s o=Kq F s o::G:=rfl
theorem Q6k(F:Frame)(G:Heap)(i s:Nat)(o:O):hset (F::G) (i+1) s o=F::hset G i s o:=rfl
def WF(H:Heap):Prop:=Q2 (fun f _=>Nat.ble H.length f) H=true
theorem WF.nil:WF []:=rfl
theorem Zs(p:Nat->Nat->Bool):∀(H G:Heap),Q2 p (H++G)=(Q2 p H&&Q2 p G)
 |[],G=>by simp[Q2]
 |F::H,G=>by simp[Q2,Zs p H G,Bool.and_assoc]
mutual
theorem Qbq{p q:Nat->Nat->Bool}(h:∀a b,p a b=true->q a b=true):∀v:V,v.refs q=false->v.refs p=false
 | .gS f s cs _ _,h2=>by
   simp only[V.refs,Zox] at h2⊢;refine⟨?_,Kv h cs h2.2⟩;cases hp:p f s with
   |false=>rfl
   |true=>rw[h _ _ hp] at h2;cases h2.1
 | .rptr cs _,h2=>by simp only[V.refs] at h2⊢;exact Kv h cs h2
 | .ptr f s _,h2| .mS f s _ _ _ _,h2| .map f s,h2| .yield f s,h2=>by
   simp only[V.refs] at h2⊢;cases hp:p f s with
   |false=>rfl
   |true=>rw[h _ _ hp] at h2;cases h2
 | .func _ a b,h2=>by simp only[V.refs,Zox] at h2⊢;exact⟨Kv h a h2.1,Kv h b h2.2⟩
 | .face _ v,h2=>by simp only[V.refs] at h2⊢;exact Qbq h v h2
 | .agg xs,h2| .tuple xs,h2=>by simp only[V.refs] at h2⊢;exact Kv h xs h2
 | .bad,_| .bool _,_| .int _ _,_| .str _,_| .nP,_| .iptr _ _,_| .nS,_| .iS _ _ _,_| .nM,_| .nF,_| .nI,_| .byte,_=>rfl
theorem Kv{p q:Nat->Nat->Bool}(h:∀a b,p a b=true->q a b=true):∀l:List V,Qi q l=false->Qi p l=false
 |[],_=>rfl
 |x::xs,h2=>by simp only[Qi,Zox] at h2⊢;exact⟨Qbq h x h2.1,Kv h xs h2.2⟩
end
theorem Qp6{p q:Nat->Nat->Bool}(h:∀a b,p a b=true->q a b=true):∀l:List (V×V),Qhk q l=false->Qhk p l=false
 |[],_=>rfl
 |(a,b)::xs,h2=>by simp only[Qhk,Zox] at h2⊢;exact⟨⟨Qbq h a h2.1.1,Qbq h b h2.1.2⟩,Qp6 h xs h2.2⟩
theorem Q10{p q:Nat->Nat->Bool}(h:∀a b,p a b=true->q a b=true)(o:O)(h2:o.refs q=false):o.refs p=false:=by
 cases o with
 |map es bs clk=>exact Qp6 h es h2
 |iter m since seen stepped=>
  cases m with
  |none=>rfl
  |some x=>
   simp only[O.refs] at h2⊢;cases hp:p x.1 x.2 with
   |false=>rfl
   |true=>rw[h _ _ hp] at h2;cases h2
 |cells xs=>exact Kv h xs h2
 |loop st pend fn rid t=>exact Kv h t h2
 |_=>rfl
theorem Qb7{p q:Nat->Nat->Bool}(h:∀a b,p a b=true->q a b=true):∀F:Frame,Zg q F=true->Zg p F=true
 |[],_=>rfl
 |(s,o)::r,h2=>by
  simp only[Zg,Zok,Zoy] at h2⊢;exact⟨Q10 h o h2.1,Qb7 h r h2.2⟩
theorem Xm{p q:Nat->Nat->Bool}(h:∀a b,p a b=true->q a b=true):∀H:Heap,Q2 q H=true->Q2 p H=true
 |[],_=>rfl
 |F::r,h2=>by
  simp only[Q2,Zok] at h2⊢;exact⟨Qb7 h F h2.1,Xm h r h2.2⟩
theorem Qa0{n m:Nat}(h:n<=m)(a b:Nat):(fun f (_:Nat)=>Nat.ble m f) a b=true->(fun f (_:Nat)=>Nat.ble n f) a b=true:=by simp only[Nat.ble_eq];omega
theorem WF.app{H G:Heap}(h:WF H)(h2:Q2 (fun f _=>Nat.ble (H.length+G.length) f) G=true):WF (H++G):=by unfold WF;rw[Zs,Zom,h2,Zo9];exact Xm (Qa0 (by omega)) H h
theorem Zf{H G:Heap}{v:V}(hv:v.refs (fun f _=>Nat.ble H.length f)=false)(hw:WF H):Yk H.length v (H++G)=H:=by
 unfold Yk;have e:(H++G).take H.length=H:=by simp
 rw[hv,e];unfold WF at hw;rw[hw];rfl
theorem Zj{b:Nat}{H:Heap}{v:V}(hv:v.refs (fun f _=>Nat.ble b f)=true):Yk b v H=H:=by unfold Yk;rw[hv];rfl
section
variable {P : Program} {t t2 e e2 : TypeId} {n by_ m : Nat} {z cs : List V} {x : V} {g : Get} {mt : Nat -> Bool} {fr : Nat} {dst : Option Nat} {d : Nat}
theorem Qbe(hu:P.underlying t=some (.slice e))(hs:sz P e=some n)(hb:byt P e=some by_)(hz:zeroCells P e=some z)(hzl:z.length=n)(ht:P.underlying t2=some (.slice e2)){s:V}(hsl:Qu9 s=true)
 (hx:Qk g n x=some (cs,0)):Qr P mt fr g dst t t2 s x=some (.val s none):=by
 simp only[Qr,hu,hs,hb,hz,hzl,if_true,Ji,ht,hx,hsl]
theorem Qcp(hu:P.underlying t=some (.slice e))(hs:sz P e=some n)(hb:byt P e=some by_)(hz:zeroCells P e=some z)(hzl:z.length=n)(ht:P.underlying t2=some (.slice e2))
 (hx:Qk g n x=some (cs,m))(hm:0<m)(hr:J4 m by_=true):Qr P mt fr g dst t t2 .nS x=grown mt g fr dst cs cs m n:=by
 obtain⟨m,rfl⟩:∃k,m=k+1:=⟨m-1,by omega⟩;simp only[Qr,hu,hs,hb,hz,hzl,if_true,Ji,ht,hx,appendTo,hr]
theorem Qcf{c0:List V}{k:Nat}(hu:P.underlying t=some (.slice e))(hs:sz P e=some n)(hb:byt P e=some by_)(hz:zeroCells P e=some z)(hzl:z.length=n)(ht:P.underlying t2=some (.slice e2))
 (hx:Qk g n x=some (cs,m))(hm:0<m)(hc:c0.length=k*n)(hr:J4 (k+m) by_=true):Qr P mt fr g dst t t2 (.iS c0 k true) x=grown mt g fr dst (c0++cs) cs (k+m) n:=by
 obtain⟨m,rfl⟩:∃k,m=k+1:=⟨m-1,by omega⟩;simp only[Qr,hu,hs,hb,hz,hzl,if_true,Ji,ht,hx,appendTo,hr,hc,and_self]
theorem Qc8{c0:List V}{f s k:Nat}(hu:P.underlying t=some (.slice e))(hs:sz P e=some n)(hb:byt P e=some by_)(hz:zeroCells P e=some z)(hzl:z.length=n)(ht:P.underlying t2=some (.slice e2))
 (hx:Qk g n x=some (cs,m))(hm:0<m)(hr:J4 (k+m) by_=true)(_:Qu cs=true)(hsc:cs.all V.scalar=true)(hg:g f s=some (.grow k)):
 Qr P mt fr g dst t t2 (.gS f s c0 k n) x=some (.val (.gS f s (c0++cs) (k+m) n) (some (f,s,.grow (k+m)))):=by
 obtain⟨m,rfl⟩:∃k,m=k+1:=⟨m-1,by omega⟩;simp only[Qr,hu,hs,hb,hz,hzl,if_true,Ji,ht,hx,appendTo,hr,hsc,hg,and_self]
theorem Qav{chk:List V}(hd:mt d=true)(hsc:cs.all V.scalar=true)(hg:g fr d=none):grown mt g fr (some d) cs chk m n=some (.val (.mS fr d 0 m none n) (some (fr,d,.cells cs))):=by simp only[grown,hd,if_true,hsc,new,hg]
theorem Kr{chk:List V}(hd:mt d=false)(_:Qu chk=true)(hg:g fr d=none):grown mt g fr (some d) cs chk m n=some (.val (.gS fr d cs m n) (some (fr,d,.grow m))):=by simp only[grown,hd,Zn5,if_false,new,hg]
end
theorem Qv{P:Program}{mt:Nat->Bool}{fr:Nat}{g:Get}{d:Option Nat}{t t2:TypeId}{s x:V}:builtinV P mt fr g d .append #[t,t2] [s,x]=Qr P mt fr g d t t2 s x:=rfl
theorem Qf5{P:Program}{mt:Nat->Bool}{fr:Nat}{g:Get}{d:Option Nat}{t t2:TypeId}{s x:V}:builtinV P mt fr g d .copy #[t,t2] [s,x]=Qa9 P g t s x:=rfl
theorem Zw{m by_:Nat}(h:m*by_<=35184372088832)(h2:m<=35184372088832):J4 m by_=true:=by simp[J4,h,h2]
theorem Z8(l:List UInt8):(Qb l).all V.scalar=true:=by simp[Qb,V.scalar]
theorem Qsi(l:List Int):(Qz l).all V.scalar=true:=by simp[Qz,V.scalar]
end Go.AM
end
section
namespace Go.AM
theorem Bu(g:Get)(n:Nat):∀l:List UInt8,Q5 (frz g (n+1)) (Qb l)=some (Qb l)
 |[]=>rfl
 |b::l=>by
  have:=Bu g n l;simp only[Qb,Zo4] at this⊢;exact Qa rfl this
theorem Qhx(g:Get)(n:Nat):∀l:List Int,Q5 (frz g (n+1)) (Qz l)=some (Qz l)
 |[]=>rfl
 |b::l=>by
  have:=Qhx g n l;simp only[Qz,Zo4] at this⊢;exact Qa rfl this
theorem Q6z{g:Get}{f s o len m:Nat}{cap:Option Nat}{xs:List V}{l:List UInt8}(hg:g f s=some (.cells xs))(hx:(xs.drop o).take len=Qb l)(hl:o+len<=xs.length):
 frz g (m+2) (.mS f s o len cap 1)=some (.iS (Qb l) len (cap==some len)):=by
 show(match g f s with
  |some (.cells xs)=>if o+len*1<=xs.length then(Q5 (frz g (m+1)) ((xs.drop o).take (len*1))).map fun cs=>V.iS cs len (cap==some len) else none
  |_=>none)=_
 rw[hg];simp only[Zof,if_pos hl,hx,Bu,Zn2]
theorem K3{g:Get}{cs cs' :List V}(h:Q5 (frz g 11) cs=some cs'):frz g depth (.tuple cs)=some (.tuple cs'):=by show(Q5 (frz g 11) cs).map V.tuple=_;rw[h];rfl
theorem Qef(l:List UInt8)(i:Nat)(b:UInt8)(h:i<l.length):splice (Qb l) i [.int .u8 b.toNat]=Qb (l.set i b):=by simp only[splice,Qb,List.length_singleton,List.map_set];rw[List.set_eq_take_append_cons_drop,if_pos (by simpa using h)];simp
section
variable {P : Program} {u e : TypeId} {g : Get}
theorem Qir(hu:P.underlying u=some (.slice e)){q:Nat}(hs:sz P e=some q){f s o len:Nat}{cap:Option Nat}{k:IntKind}{i:Int}(h0:0<=i)(hi:i<len):Qm P u (.mS f s o len cap q) (.int k i)=some (.ptr f s (o+i.toNat*q)):=by simp only[Qm,hu,hs];rw[if_pos ⟨h0,hi,trivial⟩]
theorem at_r(hu:P.underlying u=some (.slice e)){q:Nat}(hs:sz P e=some q){f s len:Nat}{cs:List V}{k:IntKind}{i:Int}(hp:Qu cs=false)(h0:0<=i)(hi:i<len):Qm P u (.gS f s cs len q) (.int k i)=some (.rptr cs (i.toNat*q)):=by simp only[Qm,hu,hs,hp,Zn5,if_false];rw[if_pos ⟨h0,hi,trivial⟩]
theorem Qk5(hu:P.underlying u=some (.slice e)){f s o len esz:Nat}{cap:Option Nat}:∀g,Ku P g u (.mS f s o len cap esz)=some (.int .i64 len):=fun g=>by simp only[Ku,hu]
theorem Q9c(hu:P.underlying u=some (.slice e)){f s len esz:Nat}{cs:List V}:∀g,Ku P g u (.gS f s cs len esz)=some (.int .i64 len):=fun g=>by simp only[Ku,hu]
end
theorem B6(p:Nat->Nat->Bool):∀l:List UInt8,Qi p (Qb l)=false
 |[]=>rfl
 |b::l=>by
  have:=B6 p l;simp only[Qb,Zo4,Qi,V.refs,Zpa] at this⊢;exact this
theorem Qw.cells1{esz n:Nat}{v:V}{cells:List V}(h:Qw esz v cells n):v.cells=some [v]:=by obtain⟨_,⟨rfl,_⟩|⟨f,rfl⟩⟩:=h<;>rfl
theorem Q6t{k:IntKind}{n:Int}:(V.int k n).cells=some [.int k n]:=rfl
theorem Q06{b:Bool}:(V.bool b).cells=some [.bool b]:=rfl
theorem Q4a{s:List UInt8}:(V.str s).cells=some [.str s]:=rfl
theorem Qwe:V.nP.cells=some [.nP]:=rfl
theorem Q4v{f s o:Nat}:(V.ptr f s o).cells=some [.ptr f s o]:=rfl
theorem Q04{c:List V}{o:Nat}:(V.iptr c o).cells=some [.iptr c o]:=rfl
theorem Qrr:V.nS.cells=some [.nS]:=rfl
theorem Qvg{c:List V}{n:Nat}{f:Bool}:(V.iS c n f).cells=some [.iS c n f]:=rfl
theorem Qwc{f s:Nat}{c:List V}{n e:Nat}:(V.gS f s c n e).cells=some [.gS f s c n e]:=rfl
theorem Qu6{f s o n e:Nat}{c:Option Nat}:(V.mS f s o n c e).cells=some [.mS f s o n c e]:=rfl
theorem Qvp:V.nM.cells=some [.nM]:=rfl
theorem Q6l{f s:Nat}:(V.map f s).cells=some [.map f s]:=rfl
theorem Q0p{f:Fn}{a b:List V}:(V.func f a b).cells=some [.func f a b]:=rfl
theorem Qst:V.nF.cells=some [.nF]:=rfl
theorem Qrv:V.nI.cells=some [.nI]:=rfl
theorem Q2v{t:TypeId}{v:V}:(V.face t v).cells=some [.face t v]:=rfl
theorem Jj{P:Program}{t e:TypeId}(hu:P.underlying t=some (.slice e)){x y:Operand}{cs:List V}{n:Nat}{f:Bool}:Zq P .eql t x y (.iS cs n f) .nS=some (.bool false):=by simp[Zq,Qis,hu,Jr,Qyf,V.isNil]
theorem wrap_i64{n:Int}(h1: -9223372036854775808<=n)(h2:n<=9223372036854775807):(IntKind.i64).wrap n=n:=by rw[IntKind.wrap_i64];omega
theorem Qao{i:Nat}(h:i<9223372036854775807):(IntKind.i64).wrap ((i:Int)+1)=((i+1:Nat):Int):=by rw[wrap_i64]<;>omega
end Go.AM
end
section
namespace Go.AM
section
variable {P : Program} {u e : TypeId} {g : Get}
theorem Qy2(hu:P.underlying u=some (.slice e)){q:Nat}(hs:sz P e=some q){f s o len c:Nat}{w:Nat}{k:IntKind}(h:w<=len)(hc:len<=c):
 ∀g,Zn P g u (.mS f s o len (some c) q) (some (.int k w)) none none=some (.mS f s (if c=w then o else o+w*q) (len-w) (some (c-w)) q):=by
 intro g;simp only[Zn,Jt,hu,hs,if_true,Qjg,Xh,Zo0,Zpb];rw[if_pos ⟨by omega,by omega,by omega,by omega,by omega,by omega,by simp⟩];simp
theorem Qfw(xs m:List UInt8)(o:Nat):splice (Qb xs) o (Qb m)=Qb (xs.take o++m++xs.drop (o+m.length)):=by simp[splice,Qb]
theorem Qgh(hu:P.underlying u=some (.slice e))(hs:sz P e=some 1){f s o n:Nat}{cap:Option Nat}{xs m:List UInt8}{v:V}(hg:g f s=some (.cells (Qb xs)))(ho:o+n<=xs.length)(hv:Qk g 1 v=some (Qb m,m.length))(hns:∀l,v≠ .str l):
 Qa9 P g u (.mS f s o n cap 1) v=some (.val (.int .i64 (min m.length n:Nat)) (some (f,s,.cells (Qb (xs.take o++m.take (min m.length n)++xs.drop (o+min m.length n)))))):=by
 have e1:Bh g 1 v=some (Qb m,m.length):=by
  cases v with
  |str l=>exact absurd rfl (hns l)
  |_=>exact hv
 have e2:((Qb m).take (min m.length n*1)).all V.scalar=true:=by rw[Qbc];exact Z8 _
 simp only[Qa9,hu,hs,e1,Qa6,if_true,hg,Zof,Qy];rw[Zof] at e2;rw[if_pos ⟨ho,e2⟩,Qbc,Qfw];simp only[Zo1];rw[show min (min m.length n) m.length=min m.length n by omega]
end
def FP.kind:FP->Nat
 | .quiet=>0
 | .ids _ []=>1
 | .peek=>1
 |_=>2
def okK(bef:Array Nat):List (Nat×Nat)->Bool
 |[]=>true
 |(a,i)::r=>r.all (fun(b,j)=>(bef.getD j 0).testBit i||(Nat.ble a 1&&Nat.ble b 1))&&okK bef r
theorem Q15:∀a b:FP,Nat.ble a.kind 1=true->Nat.ble b.kind 1=true->a.indep b=true
 | .quiet,_,_,_=>rfl
 | .ids _ [],.quiet,_,_=>rfl
 | .ids _ (_::_),.quiet,_,_=>rfl
 | .all,.quiet,_,_=>rfl
 | .peek,.quiet,_,_=>rfl
 | .peek,.peek,_,_=>rfl
 | .peek,.ids _ [],_,_=>rfl
 | .ids _ [],.peek,_,_=>rfl
 | .ids _ [],.ids _ [],_,_=>rfl
 | .ids _ (_::_),_,h,_=>by cases h
 | .all,_,h,_=>by cases h
 |_,.ids _ (_::_),_,h=>by cases h
 |_,.all,_,h=>by cases h
theorem Qpn(bef:Array Nat):∀T:List (FP×Nat),okK bef (T.map fun x=>(x.1.kind,x.2))=true->okT bef T=true
 |[],_=>rfl
 |(a,i)::r,h=>by
  simp only[Zo4,okK,Zok,Zor] at h;simp only[okT,Zok,Zor];refine⟨fun x hx=>?_,Qpn bef r h.2⟩;have:=h.1 (x.1.kind,x.2) (Zpc.2 ⟨x,hx,rfl⟩);simp only[Zpd,Zok] at this⊢;exact this.imp id fun⟨p,q⟩=>Q15 _ _ p q
theorem W.opsK{P:Program}{pol:Pol}{C:Call}{L:Kg->Kz}{fn fr:Nat}{t:List V}{H:Heap}{a:Array Oper}{T:List FP}{k:List It}{Q:Ex->List V->Heap->Prop}
 (h:okK (Region.before a) ((loud T.reverse).map fun x=>(x.1.kind,x.2))=true)(h2:W (U P pol C L fn fr k .normal t H) Q):W (U P pol C L fn fr (.opsT a [] T::k) .normal t H) Q:=
 W.opsT (Qpn _ _ h) h2
theorem Qw.notStr{esz n:Nat}{v:V}{cells:List V}(h:Qw esz v cells n)(l:List UInt8):v≠ .str l:=by obtain⟨_,⟨rfl,_⟩|⟨f,rfl⟩⟩:=h<;>simp
end Go.AM
end
section
namespace Go.AM
section
variable {P : Program} {t e : TypeId} {n : Nat} {y : V}
theorem Qiu(he:P.underlying e=some (.int .u8)):∀(ys:List (List V)),(∀y∈ys,Jc P n e y)->∃l:List UInt8,ys.flatten=Qb l/\l.length=ys.length
 |[],_=>⟨[],rfl,rfl⟩
 |y::ys,h=>by
  obtain⟨l,h1,h2⟩:=Qiu he ys fun z hz=>h z (by simp[hz]);have hy:=h y (by simp);cases n with
  |zero=>exact hy.elim
  |succ n=>
   unfold Jc at hy;rw[he] at hy;obtain⟨m,rfl,hm⟩:=hy;have hr:0<=m/\m<=255:=by simpa [Lit.wf,IntKind.min,IntKind.max,IntKind.signed,IntKind.bits] using hm
   refine⟨UInt8.ofNat m.toNat::l,?_,by simp[h2]⟩;simp only[List.flatten_cons,h1,Qb,Zo4,Zo7,List.cons.injEq,and_true,V.int.injEq,true_and];have:(UInt8.ofNat m.toNat).toNat=m.toNat:=by simp[UInt8.toNat_ofNat'];omega
   rw[this];omega
end
theorem Qp9{P:Program}{s d e:TypeId}{g:Get}{x:V}{l:List UInt8}{n:Nat}(hs:P.underlying s=some (.slice e))(he:P.underlying e=some (.int .u8))(hd:P.underlying d=some .string)(h:Qk g 1 x=some (Qb l,n)):
 convertV P g s d x=some (.val (.str l) none):=by
 have hn:∀l,x≠ .str l:=by intro l e;subst e;simp[Qk] at h
 have hn2:∀k m,x≠ .int k m:=by intro k m e;subst e;simp[Qk] at h
 simp only[convertV,hs,hd,he,h,Qcj,Zn2]
theorem sc_own{g:Get}{f s:Nat}{c:Option Nat}{l:List UInt8}(h:g f s=some (.cells (Qb l))):Qk g 1 (.mS f s 0 l.length c 1)=some (Qb l,l.length):=by simp only[Qk,h,Zof,Zod,Qy,Zn6,and_self,if_true,Zpe];rw[Zpf (by rw[Qy];exact Zn6 _)]
end Go.AM
end
section
namespace Go.AM
def itF:Code->Option (Option Nat×List It)
 | .region _ ops false=>(match ops.toList with
   |o::r=>some (o.dst,[.ops ops r])
   |[]=>none)
 | .seq a b=>(match itF a with
   |some (d,k)=>some (d,k++[.code b])
   |none=>none)
 |_=>none
section
variable {P : Program} {pol : Pol} {C : Call} {L : Kg -> Kz} {fn fr : Nat} {t : List V} {H : Heap} {Q : Ex -> List V -> Heap -> Prop}
theorem J2:∀(k k' :List It) (e:Ex) (t:List V) (H:Heap),U P pol C L fn fr (k++k') e t H=(U P pol C L fn fr k e t H).bind fun x=>U P pol C L fn fr k' x.1 x.2.1 x.2.2
 |[],_,_,_,_=>rfl
 | .code c::k,k',e,t,H=>by
   cases e with
   |normal=>
    simp only[Zo8,U];cases Ze P pol C L fn fr c t H with
    |none=>rfl
    |some x=>exact J2 k k' x.1 x.2.1 x.2.2
   |exit i=>exact J2 k k' _ t H
   |ret=>exact J2 k k' _ t H
   |panic v=>exact J2 k k' _ t H
 | .ops a l::k,k',e,t,H=>by
   cases e with
   |normal=>
    simp only[Zo8,U];cases Zp P pol C fn fr a l t H with
    |none=>rfl
    |some x=>exact J2 k k' x.1 x.2.1 x.2.2
   |exit i=>exact J2 k k' _ t H
   |ret=>exact J2 k k' _ t H
   |panic v=>exact J2 k k' _ t H
 | .opsT a l T::k,k',e,t,H=>by
   cases e with
   |normal=>
    simp only[Zo8,U];cases Zb P pol C fn fr a l t H with
    |none=>rfl
    |some x=>
     simp only[Zow];split
     . exact J2 k k' _ _ _
     . rfl
   |exit i=>exact J2 k k' _ t H
   |ret=>exact J2 k k' _ t H
   |panic v=>exact J2 k k' _ t H
 | .block id::k,k',e,t,H=>by
   cases e with
   |exit i=>
    simp only[Zo8,U];split
    . exact J2 k k' _ t H
    . exact J2 k k' _ t H
   |normal=>exact J2 k k' _ t H
   |ret=>exact J2 k k' _ t H
   |panic v=>exact J2 k k' _ t H
theorem Zag{v:V}{w:Option (Nat×Nat×O)}:∀{c:Code} {d:Option Nat} {k:List It},itF c=some (d,k)->∀(t:List V) (H:Heap),Je P pol C L fn fr c v w t H=U P pol C L fn fr k .normal (Q1 t d v) (wr H w):=by
 intro c
 induction c with
 |region id ops draw=>
  intro d k h t H;cases draw with
  |true=>cases h
  |false=>
   simp only[itF] at h;simp only[Je];cases ho:ops.toList with
   |nil=>rw[ho] at h;cases h
   |cons o r=>
    rw[ho] at h;cases h;simp only[U];cases Zp P pol C fn fr ops r (Q1 t o.dst v) (wr H w) with
    |none=>rfl
    |some x=>rfl
 |seq a b iha ihb=>
  intro d k h t H;simp only[itF] at h;cases ha:itF a with
  |none=>rw[ha] at h;cases h
  |some x=>
   obtain⟨d',k'⟩:=x;rw[ha] at h;cases h;simp only[Je,iha ha,J2];cases U P pol C L fn fr k' .normal (Q1 t d v) (wr H w) with
   |none=>rfl
   |some x=>
    obtain⟨e,t1,H1⟩:=x;cases e with
    |normal=>simp only[Zow,Qwd]
    |exit i=>rfl
    |ret=>rfl
    |panic v=>rfl
 |_=>intro d k h;cases h
theorem Zbo{α:Type}{b:Code}{x:Operand}{d:Option Nat}{k:List It}(hn:Z0 b=some x)(hi:itF b=some (d,k))(R:Ex×List V×Heap)(I:α->List V->Heap->Prop)(m:α->Nat)
 (step:∀a t H,I a t H->∃t1 H1 cs,forget pol fn fr (Zt b) t H=some (t1,H1)/\Y8 (Qd H1) (rho t1 x)=some cs/\
   ∀c∈cs,W (U P pol C Z4 fn fr k .normal (Q1 t1 d c.1) (wr H1 c.2)) fun e t2 H2=>match e with
    | .normal=>∃a',I a' t2 H2/\m a' <m a
    |e=>R=(e,t2,H2))(a:α)(h:I a t H):Z4 (round P pol C Z4 fn fr b) t H=some R:=by
 induction hm:m a using Nat.strongRecOn generalizing a t H with
 |ind n ih=>
  subst hm;obtain⟨t1,H1,cs,h1,h2,h3⟩:=step a t H h;rw[Qy8];have hr:round P pol C Z4 fn fr b t H=cs.map fun c=>U P pol C Z4 fn fr k .normal (Q1 t1 d c.1) (wr H1 c.2):=by simp only[round,h1,hn,h2,Zag hi]
  rw[hr];refine Qe1 (by simpa using Zas h2) fun y hy=>?_;rw[List.map_map] at hy;obtain⟨c,hc,rfl⟩:=Zpc.1 hy;obtain⟨e,t2,H2,q1,q2⟩:=(h3 c hc).out;simp only[Function.comp,q1];cases e with
  |normal=>
   obtain⟨a',q3,q4⟩:=q2;exact ih _ q4 a' q3 rfl
  |exit i=>exact congrArg some q2.symm
  |ret=>exact congrArg some q2.symm
  |panic v=>exact congrArg some q2.symm
theorem W.range{α:Type}{b:Code}{x:Operand}{d:Option Nat}{k:List It}(hn:Z0 b=some x)(hi:itF b=some (d,k))(R:Ex×List V×Heap)(I:α->List V->Heap->Prop)(m:α->Nat)
 (step:∀a t H,I a t H->∃t1 H1 cs,forget pol fn fr (Zt b) t H=some (t1,H1)/\Y8 (Qd H1) (rho t1 x)=some cs/\
   ∀c∈cs,W (U P pol C Z4 fn fr k .normal (Q1 t1 d c.1) (wr H1 c.2)) fun e t2 H2=>match e with
    | .normal=>∃a',I a' t2 H2/\m a' <m a
    |e=>R=(e,t2,H2))(a:α)(h:I a t H)(hQ:Q R.1 R.2.1 R.2.2):W (Z4 (round P pol C Z4 fn fr b) t H) Q:=by
 rw[Zbo hn hi R I m step a h];exact hQ
theorem Q6h{g:Get}{f s:Nat}{m:Nat×Nat}{since stepped clk:Nat}{seen:List Nat}{es:List (V×V)}{bs:List Nat}(h1:g f s=some (.iter (some m) since seen stepped))(h2:g m.1 m.2=some (.map es bs clk))
 (h3:∀b∈bs,b<since)(h4:since<=stepped):∃cs,Y8 g (.ptr f s 0)=some cs/\∀c∈cs,(Ko seen es bs=[]/\c=(.tuple [.bool false],some (f,s,.dead)))\/
   ∃e∈Ko seen es bs,c=(.tuple [.bool true,e.1.1,e.1.2],some (f,s,.iter (some m) since (seen++[e.2]) clk)):=by
 have hall:(bs.all (fun b=>decide (b<since))&&decide (since<=stepped))=true:=by rw[Zok,Zor];exact⟨fun b hb=>Zrh (h3 b hb),Zrh h4⟩
 simp only[Y8,h1,h2,hall,if_true];cases hl:Ko seen es bs with
 |nil=>exact⟨_,rfl,fun c hc=> .inl ⟨rfl,Zoh.1 hc⟩⟩
 |cons y l=>
  refine⟨_,rfl,fun c hc=> .inr ?_⟩;obtain⟨e,he,rfl⟩:=Zpc.1 hc;exact⟨e,he,rfl⟩
end
end Go.AM
end
section
namespace Go.AM
def Y3(P:Program)(t:TypeId)(i:Nat):Option (Nat×TypeId):=
 match P.underlying t with
 |some (.struct fs)=>(match fs[i]? with
  |some f=>(match sz P f.type with
   |some n=>if n=0 then none else some (f.offset,f.type)
   |none=>none)
  |none=>none)
 |_=>none
def plOf(P:Program)(t:TypeId):Option (List (Nat×Nat)):=
 match P.underlying t with
 |some (.struct fs)=>Qrp P fs.toList
 |_=>none
def Qx8(P:Program)(t:TypeId)(i:Nat):Option (Nat×TypeId):=
 match P.underlying t with
 |some (.struct fs)=>(match fs[i]? with
  |some f=>some (f.offset,f.type)
  |none=>none)
 |_=>none
def faV(off:Nat):V->Option V
 | .ptr a b o=>some (.ptr a b (o+off))
 | .iptr cs o=>some (.iptr cs (o+off))
 | .rptr cs o=>some (.rptr cs (o+off))
 |_=>none
def faO:Option (Nat×TypeId)->V->Option V
 |some x,v=>faV x.1 v
 |none,_=>none
def fvO(P:Program):Option (Nat×TypeId)->V->Option V
 |some x,.agg cs=>Qcn P x.2 cs x.1
 |_,_=>none
section
variable {P : Program} {mt : Nat -> Bool} {fr : Nat} {g : Get} {r : Operand -> V} {d : Option Nat} {ty u : TypeId} {ps : String} {af : Array Edge} {gd : Option (Nat × Bool)} {x : Operand}
theorem ev_fa{t:TypeId}{i:Nat}:Zv P mt fr g r {dst:=d,op:= .fieldAddr t x i,type:=ty,pos:=ps,after:=af,guard:=gd}=(faO (Y3 P t i) (r x)).map fun v=> .val v none:=by
 unfold Y3;simp only[Zv];cases P.underlying t with
 |none=>rfl
 |some dd=>
  cases dd with
  |struct fs=>
   simp only;cases fs[i]? with
   |none=>rfl
   |some f=>
    simp only;cases sz P f.type with
    |none=>rfl
    |some n=>
     simp only;by_cases h0:n=0
     . simp only[h0,if_true];rfl
     . simp only[h0,if_false];cases r x<;>rfl
  |_=>rfl
theorem Q9f{t:TypeId}{i:Nat}:Zv P mt fr g r {dst:=d,op:= .field t x i,type:=ty,pos:=ps,after:=af,guard:=gd}=(fvO P (Qx8 P t i) (r x)).map fun v=> .val v none:=by
 unfold Qx8;simp only[Zv];cases P.underlying t with
 |none=>rfl
 |some dd=>
  cases dd with
  |struct fs=>
   cases r x<;>simp only<;>cases fs[i]?<;>rfl
  |_=>rfl
theorem Qt3{t:TypeId}{z:List V}{ps:List (Nat×Nat)}(hz:zeroCells P t=some z)(hp:plOf P t=some ps)(parts:List (Nat×V)):By P t parts=(Xa (fun i=>ps[i]?) z parts).map .agg:=by
 unfold plOf at hp;unfold By;rw[hz];split at hp
 case h_2=>cases hp
 rename_i fs hu;rw[hu];simp only[hp]
theorem fa_ptr{off a b o:Nat}:faV off (.ptr a b o)=some (.ptr a b (o+off)):=rfl
theorem Zej{off o:Nat}{cs:List V}:faV off (.iptr cs o)=some (.iptr cs (o+off)):=rfl
theorem Za3{off:Nat}{t:TypeId}{v:V}:faO (some (off,t)) v=faV off v:=rfl
theorem fv_agg{t:TypeId}{off:Nat}{cs:List V}:fvO P (some (off,t)) (.agg cs)=Qcn P t cs off:=rfl
end
end Go.AM
end
section
namespace Go.AM
def ldO(P:Program)(t:TypeId)(o:Nat):Option O->Option V
 |some (.cells xs)=>Q3 P t xs o
 |_=>none
def ldV(P:Program)(t:TypeId)(g:Get):V->Option V
 | .ptr f s o=>ldO P t o (g f s)
 | .iptr cs o=>Q3 P t cs o
 | .rptr cs o=>Q3 P t cs o
 |_=>none
def stO(n f s o:Nat)(cs:List V):Option O->Option Zo
 |some (.cells xs)=>if cs.length=n/\o+n<=xs.length then some (.val .bad (some (f,s,.cells (splice xs o cs)))) else none
 |_=>none
def stV(g:Get):Option Nat->V->Option (List V)->Option Zo
 |some n,.ptr f s o,some cs=>stO n f s o cs (g f s)
 |_,_,_=>none
section
variable {P : Program} {mt : Nat -> Bool} {fr : Nat} {g : Get} {r : Operand -> V} {d : Option Nat} {ty u : TypeId} {ps : String} {af : Array Edge} {gd : Option (Nat × Bool)} {x a : Operand}
theorem Zeb{t:TypeId}:Zv P mt fr g r {dst:=d,op:= .load t a,type:=ty,pos:=ps,after:=af,guard:=gd}=(ldV P t g (r a)).map fun v=> .val v none:=by
 simp only[Zv];cases r a with
 |ptr f s o=>
  simp only[ldV];cases g f s with
  |none=>rfl
  |some q=>cases q<;>rfl
 |_=>rfl
theorem Zaw{t:TypeId}:Zv P mt fr g r {dst:=d,op:= .store t a x,type:=ty,pos:=ps,after:=af,guard:=gd}=stV g (sz P t) (r a) (r x).cells:=by
 simp only[Zv];cases sz P t with
 |none=>cases r a<;>first|rfl|(cases(r x).cells<;>rfl)
 |some n=>
  cases r a with
  |ptr f s o=>
   cases(r x).cells with
   |none=>rfl
   |some cs=>
    simp only[stV];cases g f s with
    |none=>rfl
    |some q=>cases q<;>rfl
  |_=>rfl
theorem ld_ptr{t:TypeId}{f s o:Nat}:ldV P t g (.ptr f s o)=ldO P t o (g f s):=rfl
theorem Zeh{t:TypeId}{o:Nat}{cs:List V}:ldV P t g (.iptr cs o)=Q3 P t cs o:=rfl
theorem Q5n{t:TypeId}{o:Nat}{xs:List V}:ldO P t o (some (.cells xs))=Q3 P t xs o:=rfl
theorem st_ptr{n f s o:Nat}{cs:List V}:stV g (some n) (.ptr f s o) (some cs)=stO n f s o cs (g f s):=rfl
theorem Q6m{n f s o:Nat}{cs xs:List V}:stO n f s o cs (some (.cells xs))=if cs.length=n/\o+n<=xs.length then some (.val .bad (some (f,s,.cells (splice xs o cs)))) else none:=rfl
theorem Qni{t:TypeId}{dd:TypeDesc}{n:Nat}(h:P.underlying t=some dd)(hs:sz P t=some n)(ha:Qn7 dd=true)(cs:List V)(o:Nat):
 Q3 P t cs o=if o+n<=cs.length then some (.agg ((cs.drop o).take n)) else none:=by
 simp only[Q3,h,hs,ha,if_true]
theorem Q44{cs:List V}:(V.agg cs).cells=if cs.all V.scalar then some cs else none:=rfl
theorem Zby{b:Bool}:(V.bool b).scalar=true:=rfl
theorem sc_int{k:IntKind}{n:Int}:(V.int k n).scalar=true:=rfl
theorem sc_str{s:List UInt8}:(V.str s).scalar=true:=rfl
theorem Q5a:V.nP.scalar=true:=rfl
theorem sc_ptr{f s o:Nat}:(V.ptr f s o).scalar=true:=rfl
theorem Zdh{cs:List V}{o:Nat}:(V.iptr cs o).scalar=true:=rfl
theorem Qzr:V.nS.scalar=true:=rfl
theorem Q4g{cs:List V}{n:Nat}{b:Bool}:(V.iS cs n b).scalar=true:=rfl
theorem Q7b{f s o n:Nat}{c:Option Nat}{e:Nat}:(V.mS f s o n c e).scalar=true:=rfl
theorem Q7a{f s n e:Nat}{cs:List V}:(V.gS f s cs n e).scalar=true:=rfl
theorem Q5c:V.nM.scalar=true:=rfl
theorem sc_map{f s:Nat}:(V.map f s).scalar=true:=rfl
theorem Zd4{f:Fn}{a b:List V}:(V.func f a b).scalar=true:=rfl
end
end Go.AM
end
section
namespace Go.AM
theorem Zed{b:Bool}:unV .not (.bool b)=some (.bool !b):=rfl
abbrev Qmi:=And.intro @u_seq<|And.intro @Zaq<|And.intro @Zch<|And.intro @w_op<|And.intro @us_val<|And.intro @Zdz<|And.intro @Zad<|And.intro @uc_ret<|And.intro @uc_pan<|And.intro @w_cond<|And.intro @Zbs<|And.intro @Q9t<|And.intro @w_opT<|And.intro @Zes<|And.intro @Zb6<|And.intro @Q8k<|And.intro @Zb7<|And.intro @Q85<|And.intro @ugt_tt<|And.intro @ugt_ff<|And.intro @ugt_tf<|And.intro @ugt_ft<|And.intro @u_draw<|And.intro @Zdt<|And.intro @ug_tt<|And.intro @ug_ff<|And.intro @ug_tf<|And.intro @ug_ft<|And.intro @ug_no<|And.intro @ugt_no<|And.intro @w_loop<|And.intro @Zex<|And.intro @Q6b<|And.intro @u_skip<|And.intro @u_ret<|And.intro @u_exit<|And.intro @u_nil<|And.intro @Qz9<|And.intro @Qw7<|And.intro @Qu7<|And.intro @Qqp<|And.intro @Qzi<|And.intro @Qr0<|And.intro @Qvy<|And.intro @b_add<|And.intro @b_sub<|And.intro @b_mul<|And.intro @b_eql<|And.intro @b_neq<|And.intro @b_lss<|And.intro @b_leq<|And.intro @b_gtr<|And.intro @b_geq<|And.intro @b_sadd<|And.intro @b_seql<|And.intro @b_sneq<|And.intro @oc_int<|And.intro @Zds<|And.intro @oc_str<|And.intro @Qyv<|And.intro @Q4w<|And.intro @Q45<|And.intro @Q08<|And.intro @Qz6<|And.intro @bi_len<|And.intro @bi_max<|And.intro @bi_min<|And.intro @mx_nil<|And.intro @mx_one<|And.intro @Q2k<|And.intro @Qvl<|And.intro @Zd5<|And.intro @Q7i<| @Zce
abbrev Qgv:=And.intro @Zed<|And.intro @Za3<|And.intro @fa_ptr<|And.intro @Zej<|And.intro @fv_agg<|And.intro @ld_ptr<|And.intro @Zeh<|And.intro @Q5n<|And.intro @st_ptr<|And.intro @Q44<|And.intro @Zby<|And.intro @sc_int<|And.intro @sc_str<|And.intro @Q5a<|And.intro @sc_ptr<|And.intro @Zdh<|And.intro @Qzr<|And.intro @Q4g<|And.intro @Q7b<|And.intro @Q7a<|And.intro @Q5c<|And.intro @sc_map<| @Zd4
abbrev Qp3:=And.intro @Q6t<|And.intro @Q06<|And.intro @Q4a<|And.intro @Qwe<|And.intro @Q4v<|And.intro @Q04<|And.intro @Qrr<|And.intro @Qvg<|And.intro @Qwc<|And.intro @Qu6<|And.intro @Qvp<|And.intro @Q6l<|And.intro @Q0p<|And.intro @Qst<|And.intro @Qrv<| @Q2v
abbrev Qey:=And.intro @List.getD_cons_zero.{0}<|And.intro @List.getD_cons_succ.{0}<|And.intro @List.set_cons_zero.{0}<|And.intro @List.set_cons_succ.{0}<|And.intro @List.map_cons.{0,0}<|And.intro @List.map_nil.{0,0}<|And.intro @Option.map_some.{0,0}<|And.intro @Option.map_none.{0,0}<|And.intro @Option.bind_some.{0,0}<|And.intro @Option.bind_none.{0,0}<|And.intro @List.length_nil.{0}<|And.intro @List.length_cons.{0}<|And.intro @List.nil_append.{0}<|And.intro @List.cons_append.{0}<|And.intro @List.append_nil.{0}<|And.intro @List.replicate_succ.{0}<|And.intro @List.replicate_zero.{0}<|And.intro @List.getElem?_cons_zero.{0}<|And.intro @List.getElem?_cons_succ.{0}<| @List.getElem?_toArray.{0}
end Go.AM
end
section
namespace Go.AM
section
variable {P : Program} {pol : Pol} {C : Call} {L : Kg -> Kz} {fn fr : Nat} {t : List V} {H : Heap} {d : Option Nat} {k : List It} {Q : Ex -> List V -> Heap -> Prop} {a : Array Oper} {r : List Oper} {T : List FP} {o : Oper}
theorem W.guardX{b want:Bool}(h1:b=want->W (U P pol C L fn fr (.opsT a (o::r) T::k) .normal t H) Q)(h2:b=(!want)->W (U P pol C L fn fr (.opsT a r (.quiet::T)::k) .normal (Q1 t d nov) H) Q):W (UGT P pol C L fn fr (some (.bool b)) want o d a r T k t H) Q:=by
 unfold UGT;by_cases h:b=want
 . simp only[h,if_true];exact h1 h
 . simp only[h,if_false];exact h2 (by cases b<;>cases want<;>simp_all)
theorem W.guardXT{b:Bool}(h1:b=true->W (U P pol C L fn fr (.opsT a (o::r) T::k) .normal t H) Q)(h2:b=false->W (U P pol C L fn fr (.opsT a r (.quiet::T)::k) .normal (Q1 t d nov) H) Q):W (UGT P pol C L fn fr (some (.bool b)) true o d a r T k t H) Q:=W.guardX h1 h2
theorem W.guardXF{b:Bool}(h1:b=false->W (U P pol C L fn fr (.opsT a (o::r) T::k) .normal t H) Q)(h2:b=true->W (U P pol C L fn fr (.opsT a r (.quiet::T)::k) .normal (Q1 t d nov) H) Q):W (UGT P pol C L fn fr (some (.bool b)) false o d a r T k t H) Q:=W.guardX h1 h2
theorem Qee{f:FuncId}{args args' :List V}{v v' :V}{H' :Heap}(hp:pol.prim f=none)(hq:pol.pure fn f=false)(hl:pol.lift fn f=false)(hk:pol.look fn f=true)(ha:Q5 (frz (Qd H) depth) args=some args')(h:Qn P pol f args' []=some (.ret v,H'))(hv:frzN (Qd H') depth v=some v'):
 callOp pol (Qn P pol) fn fr d f args H=some (.ret v',H):=by
 simp only[callOp,hp,hq,hl,hk,if_true,ha,Zn5,if_false,h,hv,Zn2]
theorem W.opsK1(h:okK (Region.before a) ((loud T.reverse).map fun x=>(x.1.kind,x.2))=true)(h2:True->W (U P pol C L fn fr k .normal t H) Q):W (U P pol C L fn fr (.opsT a [] T::k) .normal t H) Q:=
 W.opsK h (h2 trivial)
end
end Go.AM
end
section
namespace Go.AM
abbrev ai{p q:Prop}(h:p)(k:q):p/\q:=⟨h,k⟩
abbrev Qfg:=ai @decide_true<|ai @decide_false<|ai @eq_self.{1}<|ai @Bool.not_true<|ai @Bool.not_false<|ai @Q6m<|ai @List.all_cons.{0}<|ai @List.all_nil.{0}<|ai @Bool.and_self<|ai @Bool.and_true<|ai @Bool.false_eq_true<| @Zdg
abbrev Qc:=ai @ev_fa<|ai @Q9f<|ai @Zeb<| @Zaw
abbrev walkH:=ai @List.modify_zero_cons.{0}<|ai @List.modify_succ_cons.{0}<|ai @List.modify_cons.{0}<|ai @Nat.lt_irrefl<|ai @Nat.not_lt_zero<| @Nat.lt_add_one
abbrev Qow:=ai @Nat.one_ne_zero<|ai @and_self<|ai @and_true<|ai @true_and<|ai @List.take_zero.{0}<|ai @List.drop_succ_cons.{0}<|ai @List.drop_zero.{0}<|ai @List.take_succ_cons.{0}<|ai @List.replicate_one.{0}<|ai @List.drop_nil.{0}<|ai @List.take_nil.{0}<|ai @Nat.le_refl<|ai @Nat.zero_add<|ai @Nat.zero_mul<|ai @Nat.one_mul<| @Nat.mul_one
abbrev Yf:=ai @Bool.or_true<|ai @Bool.true_or<|ai @Bool.or_false<|ai @Bool.false_or<|ai @Bool.and_true<|ai @Bool.true_and<|ai @Bool.and_false<|ai @Bool.false_and<|ai @Bool.not_true<|ai @Bool.not_false<| @Bool.false_eq_true
abbrev walkG:=ai @Qpb<|ai @J9<|ai @Qyq<|ai @X9<|ai @Q5j<|ai @Q5v<|ai @Q6k<|ai @Q6a<|ai @Nat.lt_irrefl<|ai @Nat.not_lt_zero<| @Nat.lt_add_one
abbrev wS:=ai Qmi<|ai Qey<|ai Qfg<|ai @Zk.eq_1<|ai @Zk.eq_2<|ai @Zk.eq_3<|ai @Zk.eq_4<|ai @Zk.eq_5<|ai @Zk.eq_6<|ai @Zk.eq_7<|ai @Zk.eq_8<|ai @Zk.eq_9<|ai @Zk.eq_10<|ai @Zk.eq_11<|ai @Zk.eq_12<|ai @Zk.eq_13<|ai @Zk.eq_14<|ai @Zk.eq_15<|ai @Zk.eq_16<|ai @Zk.eq_17<|ai @Kf.eq_1<|ai @Kf.eq_2<|ai @nov.eq_1<|ai @gd.eq_1<|ai @rho.eq_1<|ai @rho.eq_2<|ai @rho.eq_3<|ai @rho.eq_4<|ai @Q1.eq_1<|ai @Q1.eq_2<|ai @wr.eq_1<|ai @wr.eq_2<| @Zv.eq_1
abbrev wA:=ai wS Qgv
abbrev wH:=ai walkH<|ai @new.eq_1<|ai @new.eq_2<|ai @Qd.eq_1<|ai @hset.eq_1<|ai @Xx.eq_1<|ai @Xx.eq_2<|ai @Kq.eq_1<| @Kq.eq_2
abbrev wZ:=ai Qp3<|ai Qow<|ai @zerosN.eq_1<|ai @zerosN.eq_2<|ai @Xa.eq_1<|ai @Xa.eq_2<|ai @Qu.eq_1<|ai @Qu.eq_2<|ai @V.pure.eq_1<|ai @V.pure.eq_2<|ai @V.pure.eq_3<|ai @V.pure.eq_4<|ai @V.pure.eq_5<|ai @V.pure.eq_6<|ai @V.pure.eq_7<|ai @V.pure.eq_8<|ai @V.pure.eq_9<|ai @V.pure.eq_10<| @V.pure.eq_11
abbrev wB:=ai wZ @splice.eq_1
abbrev wG:=ai walkG<|ai @new.eq_1<|ai @new.eq_2<|ai @Xx.eq_1<|ai @Xx.eq_2<|ai @Kq.eq_1<| @Kq.eq_2
end Go.AM
end
section
namespace Go.AM
section
variable {P : Program} {E : Env} {B : Nat} {F : Nat -> Nat -> Prop} {H : Heap}
end
end Go.AM
end
section
namespace Go.AM
section
variable {P : Program} {pol : Pol} {L : Kg -> Kz} {fn fr : Nat} {t : List V} {H : Heap} {k : List It} {Q : Ex -> List V -> Heap -> Prop}
theorem Zbz{C:Call}{g:Operand}{ps:Array Tmp}{a b:Code}{f:FuncId}{first cap:List V}(hg:rho t g= .func (.func f) first cap)(hf:Qd H fr (Zd (Zl a b))=none):
 U P pol C L fn fr (.code (.rangeFunc g ps a b)::k) .normal t H=(match C f (first++[.yield fr (Zd (Zl a b))]++cap) (hset H fr (Zd (Zl a b)) (.loop 0 none fn (Zl a b) t)) with
   |some (.ret _,H2)=>UL P pol C L fn fr (K0 fr (Zd (Zl a b)) t H2) k
   |_=>none):=by
 simp only[U,Ze,hg,hf,UL];cases C f (first++[.yield fr (Zd (Zl a b))]++cap) (hset H fr (Zd (Zl a b)) (.loop 0 none fn (Zl a b) t)) with
 |none=>rfl
 |some q=>obtain⟨q,H2⟩:=q;cases q<;>rfl
theorem W.rfunc{g:Operand}{ps:Array Tmp}{a b:Code}{f:FuncId}{first cap:List V}{rid:Nat}(hr:Zl a b=rid)(hg:rho t g= .func (.func f) first cap)(hf:Qd H fr (Zd rid)=none)
 (h:CW P pol f (first++[.yield fr (Zd rid)]++cap) (hset H fr (Zd rid) (.loop 0 none fn rid t)) fun r H2=>∃v,r= .ret v/\W (UL P pol (Qn P pol) L fn fr (K0 fr (Zd rid) t H2) k) Q):
 W (U P pol (Qn P pol) L fn fr (.code (.rangeFunc g ps a b)::k) .normal t H) Q:=by
 subst hr;obtain⟨r,H2,h1,v,rfl,h2⟩:=h;rw[Zbz hg hf,h1];exact h2
theorem Qjk{s st f r:Nat}{t0:List V}(hg:Qd H fr s=some (.loop st none f r t0))(hst:st≠1)(h1:Qi (Jd fr s) t=false)(h2:Q2 (Jd fr s) (H.modify fr (Ju fun x=>[s].contains x))=true):
 K0 fr s t H=some (.normal,t,H.modify fr (Ju fun x=>[s].contains x)):=by
 simp only[K0,hg,if_neg hst,h1,h2,Zn5,if_false,if_true]
theorem Qcw{F:Func}{c:Code}{fn rid:Nat}{x:Array Tmp×Code×Code}(hF:P.funcs[fn]?=some F)(hc:F.body=some c)(h:Q6 rid c=some x):Qt P fn rid=some x:=by simp only[Qt,hF,hc,h]
theorem Qaq{t:List V}{i:Nat}{x d:V}(h:i<t.length):(t.set i x).getD i d=x:=by simp[List.getD,h]
theorem Qas{t:List V}{i j:Nat}{x d:V}(h:(i==j)=false):(t.set i x).getD j d=t.getD j d:=by
 have:i≠j:=by simpa using h
 simp[List.getD,this]
theorem Qe3{fo so:Nat}{args:List V}{p:Option (Option Nat)}{fL rid:Nat}{t0:List V}{ps:Array Tmp}{a b:Code}{R:Rt->Heap->Prop}
 (hg:Qd H fo so=some (.loop 0 p fL rid t0))(hl:Qt P fL rid=some (ps,a,b))(hn:args.length=ps.size)
 (h:W (U P pol (Qn P pol) Z4 fL H.length [.code a] .normal (Bt t0 (ps.toList.zip args)) (H++[[]])) fun e t1 H1=>e= .normal/\∃p' fL' rid' t0',Qd H1 fo so=some (.loop 0 p' fL' rid' t0')/\
   W (U P pol (Qn P pol) Z4 fL H.length [.code b] .normal t1 (hset H1 fo so (.loop 1 p' fL' rid' t0'))) fun e _ H2=>∃r H3,Bn fo so H.length e H2=some (r,H3)/\R r H3):
 ∃r H3,Qn P pol none (.yield fo so::args) H=some (r,H3)/\R r H3:=by
 obtain⟨e,t1,H1,h1,rfl,p',fL',rid',t0',h2,h3⟩:=h.out;obtain⟨e2,t2,H2,h4,r,H3,h5,h6⟩:=h3.out;refine⟨r,H3,Qxe ?_,h6⟩;have one' :∀(fr:Nat) (c:Code) t H,U P pol (Qn P pol) Z4 fL fr [.code c] .normal t H=Ze P pol (Qn P pol) Z4 fL fr c t H:=by intro fr c t H;simp only[U];cases Ze P pol (Qn P pol) Z4 fL fr c t H<;>rfl
 rw[one'] at h1 h4;unfold Qay;simp only[hg,hl,if_pos hn,h1,h2,h4];exact h5
end
end Go.AM
end
