/- This file holds in one the texts An30, An31, An32, An33, An34, An37, An40, An41, An48, An52, An54, An36, DL; each says at its head what it proves. -/
import Derived.Test.YtpdimkonjmoadaaGreatDoorT10
import Derived.Test.YtpdimkonjmoadaaGreatDoorT11
set_option linter.unusedSimpArgs false
set_option linter.unusedVariables false
section
namespace Go.AM
def W(X:Out)(Q:Ex->List V->Heap->Prop):Prop:=match X with
 |some (e,t,H)=>Q e t H
 |none=>False
theorem W.mono{X:Out}{Q Q' :Ex->List V->Heap->Prop}(h:W X Q)(k:∀e t H,Q e t H->Q' e t H):W X Q' :=by
 cases X with
 |none=>exact h
 |some x=>exact k _ _ _ h
theorem W.out{X:Out}{Q:Ex->List V->Heap->Prop}(h:W X Q):∃e t H,X=some (e,t,H)/\Q e t H:=by
 cases X with
 |none=>exact h.elim
 |some x=>exact⟨_,_,_,rfl,h⟩
section
variable {P : Program} {pol : Pol} {C : Call} {L : Kc -> Kv} {fn fr : Nat} {t : List V} {H : Heap} {d : Option Nat} {k k' : List It} {Q : Ex -> List V -> Heap -> Prop}
theorem W.done{e:Ex}(h:Q e t H):W (some (e,t,H)) Q:=h
theorem W.ite{b:Bool}(h1:b=true->W (U P pol C L fn fr k .normal t H) Q)(h2:b=false->W (U P pol C L fn fr k' .normal t H) Q):W (UI P pol C L fn fr (.bool b) k k' t H) Q:=by
 cases b with
 |true=>exact h1 rfl
 |false=>exact h2 rfl
theorem W.guard{b want:Bool}(h1:b=want->W (U P pol C L fn fr k .normal t H) Q)(h2:b=(!want)->W (U P pol C L fn fr k' .normal (Qs t d nov) H) Q):W (UG P pol C L fn fr (some (.bool b)) want k k' d t H) Q:=by
 unfold UG;by_cases h:b=want
 . simp only[h,if_true];exact h1 h
 . simp only[h,if_false];exact h2 (by cases b<;>cases want<;>simp_all)
theorem W.guardT{b:Bool}(h1:b=true->W (U P pol C L fn fr k .normal t H) Q)(h2:b=false->W (U P pol C L fn fr k' .normal (Qs t d nov) H) Q):W (UG P pol C L fn fr (some (.bool b)) true k k' d t H) Q:=W.guard h1 h2
theorem W.guardF{b:Bool}(h1:b=false->W (U P pol C L fn fr k .normal t H) Q)(h2:b=true->W (U P pol C L fn fr k' .normal (Qs t d nov) H) Q):W (UG P pol C L fn fr (some (.bool b)) false k k' d t H) Q:=W.guard h1 h2
theorem W.ul{X:Out}(h:W X fun e t H=>W (U P pol C L fn fr k e t H) Q):W (UL P pol C L fn fr X k) Q:=by
 cases X with
 |none=>exact h.elim
 |some x=>exact h
theorem W.loop{α:Type}{b:Code}(I:α->List V->Heap->Prop)(m:α->Nat)
 (step:∀a t H,I a t H->∃t1 H1,forget pol fn fr (Zn b) t H=some (t1,H1)/\W (U P pol C Z1 fn fr [.code b] .normal t1 H1) fun e t2 H2=>match e with
   | .normal=>∃a',I a' t2 H2/\m a' <m a
   |e=>Q e t2 H2)(a:α)(h:I a t H)(hn:Zt b=none:=by rfl):W (Z1 (round P pol C Z1 fn fr b) t H) Q:=by
 induction hm:m a using Nat.strongRecOn generalizing a t H with
 |ind n ih=>
  subst hm;obtain⟨t1,H1,h1,h2⟩:=step a t H h;obtain⟨e,t2,H2,h3,h4⟩:=h2.out;rw[Q56 ((Q7u hn h1).trans (by rw[h3]))];cases e with
  |normal=>
   obtain⟨a',h5,h6⟩:=h4;exact ih _ h6 a' h5 rfl
  |exit i=>exact h4
  |ret=>exact h4
  |panic v=>exact h4
theorem W.loopS{α:Type}{b:Code}{kt:List Nat}(hk:pol.keep fn (Zn b)=some (kt,[]))(S:α->List V)(HS:α->Heap)(I:α->Prop)(m:α->Nat)
 (step:∀a,I a->W (U P pol C Z1 fn fr [.code b] .normal (S a) (HS a)) fun e t2 H2=>match e with
   | .normal=>∃a',Jj kt t2 0=S a' /\H2=HS a' /\I a' /\m a' <m a
   |e=>Q e t2 H2)(a:α)(h:I a)(ht:Jj kt t 0=S a)(hH:H=HS a)(hn:Zt b=none:=by rfl)(hm:pol.move fn (Zn b)=none:=by rfl):W (Z1 (round P pol C Z1 fn fr b) t H) Q:=by
 refine W.loop (Q:=Q) (fun a t H=>Jj kt t 0=S a/\H=HS a/\I a) m ?_ a ⟨ht,hH,h⟩ hn;rintro a t H ⟨h1,h2,h3⟩;refine⟨S a,HS a,by rw[Jl hk hm,h1,h2],(step a h3).mono ?_⟩;intro e t2 H2 h4;cases e with
 |normal=>obtain⟨a',q1,q2,q3,q4⟩:=h4;exact⟨a',⟨q1,q2,q3⟩,q4⟩
 |exit i=>exact h4
 |ret=>exact h4
 |panic v=>exact h4
def End(P:Program)(F:Func)(b:Nat)(R:Rt->Heap->Prop)(e:Ex)(t:List V)(H:Heap):Prop:=match e with
 | .normal| .ret=>∃v,Qa5 P F t H=some v/\R (.ret v) (Bs b v H)
 | .panic v=>R (.pan v) (Bs b v H)
 | .exit _=>False
theorem End.ret{F:Func}{b:Nat}{R:Rt->Heap->Prop}{v:V}(h:Qa5 P F t H=some v)(h2:R (.ret v) (Bs b v H)):End P F b R .ret t H:=⟨v,h,h2⟩
theorem End.normal{F:Func}{b:Nat}{R:Rt->Heap->Prop}{v:V}(h:Qa5 P F t H=some v)(h2:R (.ret v) (Bs b v H)):End P F b R .normal t H:=⟨v,h,h2⟩
def CW(P:Program)(pol:Pol)(f:FuncId)(args:List V)(H:Heap)(R:Rt->Heap->Prop):Prop:=∃r H',Qq P pol f args H=some (r,H')/\R r H'
theorem CW.mono{f:FuncId}{args:List V}{R R' :Rt->Heap->Prop}(h:CW P pol f args H R)(k:∀r H',R r H' ->R' r H'):CW P pol f args H R' :=by obtain⟨r,H',h1,h2⟩:=h;exact⟨r,H',h1,k _ _ h2⟩
theorem Ye{f:FuncId}{F:Func}{c:Code}{args:List V}{R:Rt->Heap->Prop}(hF:P.funcs[f]?=some F)(hc:F.body=some c)
 (h:W (U P pol (Qq P pol) Z1 f H.length [.code c] .normal (args++List.replicate (F.ntmps-args.length) .bad) (H++[[]])) (End P F H.length R))(hs:pol.settle f=[]:=by rfl):CW P pol f args H R:=by
 obtain⟨e,t',H',h1,h2⟩:=h.out;have key:∀r,Qov P F H.length (some (e,t',H'))=some r->Qq P pol f args H=some r:=fun r hr=>Zc2 hF hc (by rw[h1];exact hr) hs;cases e with
 |normal=>
  obtain⟨v,h3,h4⟩:=h2;exact⟨_,_,key (.ret v,Bs H.length v H') (by simp only[Qov,h3]),h4⟩
 |ret=>
  obtain⟨v,h3,h4⟩:=h2;exact⟨_,_,key (.ret v,Bs H.length v H') (by simp only[Qov,h3]),h4⟩
 |exit i=>exact h2.elim
 |panic v=>exact⟨_,_,key (.pan v,Bs H.length v H') rfl,h2⟩
def Fz(P:Program)(pol:Pol)(f:FuncId)(args:List V)(R:V->Prop):Prop:=∃v H' v',Qq P pol f args []=some (.ret v,H')/\frz (Qd H') depth v=some v' /\R v'
theorem Fz.of_cw{f:FuncId}{args:List V}{R:V->Prop}(h:CW P pol f args [] fun r H' =>∃v,r= .ret v/\∃v',frz (Qd H') depth v=some v' /\R v'):Fz P pol f args R:=by obtain⟨r,H',h1,v,rfl,v',h2,h3⟩:=h;exact⟨v,H',v',h1,h2,h3⟩
theorem Fz.op' {f:FuncId}{args args' :List V}{R:V->Prop}(h:Fz P pol f args' R)(hp:pol.prim f=none)(ha:Qx (frz (fun _ _=>none) depth) args=some args'):
 ∃v,R v/\∀(fn fr:Nat) (d:Option Nat) (H:Heap),pol.pure fn f=true->callOp pol (Qq P pol) fn fr d f args H=some (.ret v,H):=by
 obtain⟨v,H',v',h1,h2,h3⟩:=h;exact⟨v',h3,fun fn fr d H hq=>Qns hp hq ha h1 h2⟩
theorem Fz.op{f:FuncId}{args:List V}{R:V->Prop}(h:Fz P pol f args R)(hp:pol.prim f=none)(ha:Qx (frz (fun _ _=>none) depth) args=some args):
 ∃v,R v/\∀(fn fr:Nat) (d:Option Nat) (H:Heap),pol.pure fn f=true->callOp pol (Qq P pol) fn fr d f args H=some (.ret v,H):=by
 obtain⟨v,H',v',h1,h2,h3⟩:=h;exact⟨v',h3,fun fn fr d H hq=>Qns hp hq ha h1 h2⟩
theorem Xs{f:FuncId}{args:List V}{r:Rt×Heap}(hp:pol.prim f=none)(hq:pol.pure fn f=false)(ht:pol.thin fn f=false)(h:Qq P pol f args H=some r)(hl:pol.lift fn f=false:=by rfl)(hk:pol.look fn f=false:=by rfl)(hz:pol.peek fn f=false:=by rfl)(hw:pol.side fn f=none:=by rfl):callOp pol (Qq P pol) fn fr d f args H=some r:=by simp only[callOp,hp,hq,hl,hk,hz,hw,Qe6,Qge,Qa0,ht,Zpo,if_false,h]
theorem Qds{f:FuncId}{args:List V}{v:V}{H1:Heap}{ks:List Nat}{x:Option Nat}(hw:pol.side fn f=some (ks,x))(hp:pol.prim f=none)(hq:pol.pure fn f=false)(ht:pol.thin fn f=false)(h:Qq P pol f args H=some (.ret v,H1))(h1:∀k∈ks,Qd H1 fr k=Qd H fr k)
 (h2:∀d,x=some d->(fr<H.length/\fr<H1.length/\Qd H1 fr d=Qd H fr d)/\∀cs,Qd H fr d=none->pol.news fn d=some cs->Qq P pol f args (hset H fr d (.cells cs))=some (.ret v,hset H1 fr d (.cells cs)))
 (hl:pol.lift fn f=false:=by rfl)(hk:pol.look fn f=false:=by rfl)(hz:pol.peek fn f=false:=by rfl):callOp pol (Qq P pol) fn fr d f args H=some (.ret v,H1):=by
 simp only[callOp,hp,hq,hl,hk,hw,hz,Qge,Qa0,ht,Zpo,if_false];exact Qe9 fr h h1 h2
theorem Qhb{f:FuncId}{args args' :List V}{r:Rt×Heap}(hp:pol.prim f=none)(hq:pol.pure fn f=false)(ht:pol.thin fn f=true)(ha:Qx (frz (fun _ _=>none) depth) args=some args')(h:Qq P pol f args' H=some r)(hl:pol.lift fn f=false:=by rfl)(hk:pol.look fn f=false:=by rfl)(hz:pol.peek fn f=false:=by rfl)(hw:pol.side fn f=none:=by rfl):
 callOp pol (Qq P pol) fn fr d f args H=some r:=by
 simp only[callOp,hp,hq,hl,hk,hz,hw,Qe6,Qge,Qa0,ht,if_true,ha,Zpo,if_false,h]
end
theorem Qpz(g g' :Get):∀(n:Nat),(∀v:V,v.refs (fun _ _=>true)=false->frz g n v=frz g' n v)
 |0=>fun _ _=>rfl
 |n+1=>by
  have ih:=Qpz g g' n;have ihL:∀l:List V,Qh (fun _ _=>true) l=false->Qx (frz g n) l=Qx (frz g' n) l:=by
   intro l
   induction l with
   |nil=>intro _;rfl
   |cons x l ihl=>
    intro h;simp only[Qh,Zqe] at h;simp only[Qx,ih x h.1,ihl h.2]
  intro v h;cases v with
  |ptr=>simp[V.refs] at h
  |gS=>simp[V.refs] at h
  |mS=>simp[V.refs] at h
  |map=>simp[V.refs] at h
  |func fn a b=>
   simp only[V.refs,Zqe] at h;simp only[frz,ihL a h.1,ihL b h.2]
  |face t x=>simp only[V.refs] at h;simp only[frz,ih x h]
  |agg cs=>simp only[V.refs] at h;simp only[frz,ihL cs h]
  |tuple cs=>simp only[V.refs] at h;simp only[frz,ihL cs h]
  |rptr cs o=>simp only[V.refs] at h;simp only[frz,ihL cs h]
  |_=>rfl
theorem Q7o{p q:Nat->Nat->Bool}(h:∀a b,p a b=q a b)(v:V):v.refs p=v.refs q:=by
 have:p=q:=by funext a b;exact h a b
 rw[this]
theorem Qx7(v:V)(H:Heap)(n:Nat):frz (Qd (Bs 0 v H)) n v=frz (Qd H) n v:=by
 unfold Bs;split
 . rename_i h;simp only[Zqf,Zqg] at h;apply Qpz;rw[<-h.1];exact Q7o (fun a b=>by simp) v
 . rfl
section
variable {P : Program} {pol : Pol}
def Zc(P:Program)(F:Func)(R:V->Prop)(e:Ex)(t:List V)(H:Heap):Prop:=match e with
 | .normal| .ret=>∃v v',Qa5 P F t H=some v/\frz (Qd H) depth v=some v' /\R v'
 |_=>False
theorem Zc.ret{F:Func}{R:V->Prop}{t:List V}{H:Heap}{v v' :V}(h:Qa5 P F t H=some v)(h1:frz (Qd H) depth v=some v')(h2:R v'):Zc P F R .ret t H:=⟨v,v',h,h1,h2⟩
theorem Zc.normal{F:Func}{R:V->Prop}{t:List V}{H:Heap}{v v' :V}(h:Qa5 P F t H=some v)(h1:frz (Qd H) depth v=some v')(h2:R v'):Zc P F R .normal t H:=⟨v,v',h,h1,h2⟩
theorem Zp{f:FuncId}{F:Func}{c:Code}{args:List V}{R:V->Prop}(hF:P.funcs[f]?=some F)(hc:F.body=some c)
 (h:W (U P pol (Qq P pol) Z1 f 0 [.code c] .normal (args++List.replicate (F.ntmps-args.length) .bad) [[]]) (Zc P F R))(hs:pol.settle f=[]:=by rfl):Fz P pol f args R:=by
 apply Fz.of_cw;refine Ye hF hc (h.mono ?_) hs;intro e t H h;cases e with
 |normal=>obtain⟨v,v',h1,h2,h3⟩:=h;exact⟨v,h1,v,rfl,v',by rw[<-h2];exact Qx7 v H depth,h3⟩
 |ret=>obtain⟨v,v',h1,h2,h3⟩:=h;exact⟨v,h1,v,rfl,v',by rw[<-h2];exact Qx7 v H depth,h3⟩
 |exit i=>exact h.elim
 |panic v=>exact h.elim
end
def Qv(esz:Nat)(v:V)(cells:List V)(n:Nat):Prop:=cells.length=n*esz/\((v= .nS/\n=0)\/∃full,v= .iS cells n full)
theorem Qv.mk{esz:Nat}{cells:List V}{n:Nat}{full:Bool}(h:cells.length=n*esz):Qv esz (.iS cells n full) cells n:=⟨h,.inr ⟨full,rfl⟩⟩
theorem Qv.nil{esz:Nat}:Qv esz .nS [] 0:=⟨by simp,.inl ⟨rfl,rfl⟩⟩
section
variable {P : Program} {esz n : Nat} {v : V} {cells : List V} {u e : TypeId} {g : Get} {k : IntKind}
theorem Qv.frz(h:Qv esz v cells n)(m:Nat):AM.frz g (m+1) v=some v:=by obtain⟨_,⟨rfl,_⟩|⟨f,rfl⟩⟩:=h<;>rfl
theorem Qv.len(hu:P.underlying u=some (.slice e))(h:Qv esz v cells n):∀g,B0 P g u v=some (.int .i64 n):=by
 intro g;obtain⟨_,⟨rfl,rfl⟩|⟨f,rfl⟩⟩:=h
 . exact Q1g hu
 . exact Qio hu _ _ _
theorem Qv.at(hu:P.underlying u=some (.slice e))(hs:sz P e=some esz)(he:0<esz)(h:Qv esz v cells n){i:Int}(h0:0<=i)(hi:i<n):Qu P u v (.int k i)=some (.iptr cells (i.toNat*esz)):=by
 obtain⟨hl,⟨rfl,rfl⟩|⟨f,rfl⟩⟩:=h
 . omega
 . rw[ia_of hu hs,if_pos ⟨h0,hi,hl,he⟩]
theorem Qv.sc(h:Qv esz v cells n):Qj g esz v=some (cells,n):=by
 obtain⟨hl,⟨rfl,rfl⟩|⟨f,rfl⟩⟩:=h
 . have:cells=[]:=Zqh (by simpa using hl);subst this;rfl
 . simp[Qj,hl]
theorem Qv.noRefs(h:Qv esz v cells n)(p:Nat->Nat->Bool):v.refs p=false:=by obtain⟨_,⟨rfl,_⟩|⟨f,rfl⟩⟩:=h<;>rfl
theorem Qv.pure(h:Qv esz v cells n):v.pure=true:=by obtain⟨_,⟨rfl,_⟩|⟨f,rfl⟩⟩:=h<;>rfl
end
theorem Zdt{cells:List V}{n esz:Nat}{full:Bool}(hl:cells.length=n*esz)(lo hi:Option Int)(h0:0<=lo.getD 0)(h1:lo.getD 0<=hi.getD n)(h2:hi.getD n<=n):
 ∃f,Qn6 cells n full esz lo hi none=some (.iS ((cells.drop ((lo.getD 0).toNat*esz)).take (((hi.getD n).toNat-(lo.getD 0).toNat)*esz)) ((hi.getD n).toNat-(lo.getD 0).toNat) f):=by
 refine⟨(full||(none:Option Int).isSome)&&((n:Int).toNat==(hi.getD n).toNat),?_⟩;simp only[Qn6,hl,if_true,Qat,Zqi];rw[if_pos ⟨by omega,by omega,by omega,by omega,h0,h1,by simp⟩]
theorem Qv.cut{P:Program}{esz n:Nat}{v:V}{cells:List V}{u e:TypeId}(hu:P.underlying u=some (.slice e))(hs:sz P e=some esz)(h:Qv esz v cells n)(lo hi:Option Int)
 (h0:0<=lo.getD 0)(h1:lo.getD 0<=hi.getD n)(h2:hi.getD n<=n):
 ∃w,(∀g,Z9 P g u v (lo.map (.int .i64)) (hi.map (.int .i64)) none=some w)/\Qv esz w ((cells.drop ((lo.getD 0).toNat*esz)).take (((hi.getD n).toNat-(lo.getD 0).toNat)*esz)) ((hi.getD n).toNat-(lo.getD 0).toNat):=by
 have ol:By (lo.map (.int .i64))=some lo:=by cases lo<;>rfl
 have oh:By (hi.map (.int .i64))=some hi:=by cases hi<;>rfl
 have on:By none=some none:=rfl;obtain⟨hl,⟨rfl,rfl⟩|⟨f,rfl⟩⟩:=h
 . refine⟨.nS,fun g=>?_,?_⟩
   . simp only[Z9,ol,oh,on,hu,hs,Qat];rw[if_pos ⟨by simp,by simp,by simp only[Int.natCast_zero] at*;omega,by simp at*;omega,h0,h1,by simp⟩]
   . have:cells=[]:=Zqh (by simpa using hl);subst this;have e:(hi.getD (0:Nat)).toNat-(lo.getD 0).toNat=0:=by omega
     rw[e];exact⟨by simp,.inl ⟨rfl,rfl⟩⟩
 . obtain⟨f',e⟩:=Zdt (full:=f) hl lo hi h0 h1 h2;refine⟨_,fun g=>?_,Qv.mk (full:=f') ?_⟩
   . simp only[Z9,ol,oh,on,hu,hs];exact e
   . rw[Zqj,List.length_drop,hl,<-Nat.sub_mul];apply Nat.min_eq_left;apply Zqk;omega
def Qk(v:V)(l:List UInt8):Prop:=Qv 1 v (Qb l) l.length
theorem Za(l:List UInt8):(Qb l).length=l.length:=by simp[Qb]
theorem Qek(l:List UInt8)(i:Nat):(Qb l)[i]?=(l[i]?).map fun b=> .int .u8 b.toNat:=by simp[Qb]
theorem Qa6(l:List UInt8)(n:Nat):(Qb l).take n=Qb (l.take n):=by simp[Qb]
theorem Qfw(l:List UInt8)(n:Nat):(Qb l).drop n=Qb (l.drop n):=by simp[Qb]
theorem Y5(l m:List UInt8):Qb (l++m)=Qb l++Qb m:=by simp[Qb]
theorem Qk.mk(l:List UInt8)(full:Bool):Qk (.iS (Qb l) l.length full) l:=Qv.mk (by simp[Za])
theorem Qk.nil:Qk .nS []:=Qv.nil
theorem Qcd:∀l:List UInt8,AM.bytesOf (Qb l)=some l
 |[]=>rfl
 |b::l=>by
  have:=Qcd l;simp only[Qb,Zp4,AM.bytesOf] at this⊢;rw[this];simp
theorem Qk.bytesV{v:V}{l:List UInt8}{g:Get}(h:Qk v l):bytesV g v=some l:=by have hc:=Qv.sc (g:=g) h;obtain⟨_,⟨rfl,_⟩|⟨f,rfl⟩⟩:=h<;>simp only[AM.bytesV,hc,Qcd]
theorem Qk.cut{P:Program}{v:V}{l:List UInt8}{u e:TypeId}(hu:P.underlying u=some (.slice e))(hs:sz P e=some 1)(h:Qk v l)(lo hi:Option Int)
 (h0:0<=lo.getD 0)(h1:lo.getD 0<=hi.getD l.length)(h2:hi.getD l.length<=l.length):
 ∃w,(∀g,Z9 P g u v (lo.map (.int .i64)) (hi.map (.int .i64)) none=some w)/\Qk w ((l.drop (lo.getD 0).toNat).take ((hi.getD l.length).toNat-(lo.getD 0).toNat)):=by
 obtain⟨w,h3,h4⟩:=Qv.cut hu hs h lo hi h0 h1 h2;refine⟨w,h3,?_⟩;simp only[Zp7,Qfw,Qa6] at h4;unfold Qk;rwa[show((l.drop (lo.getD 0).toNat).take ((hi.getD l.length).toNat-(lo.getD 0).toNat)).length=(hi.getD l.length).toNat-(lo.getD 0).toNat by rw[Zqj,List.length_drop];omega]
def Qm(l:List Int):List V:=l.map fun i=> .int .i64 i
def Ke(v:V)(l:List Int):Prop:=Qv 1 v (Qm l) l.length
theorem Xv(l:List Int):(Qm l).length=l.length:=by simp[Qm]
theorem Qq2(l:List Int)(i:Nat):(Qm l)[i]?=(l[i]?).map fun b=> .int .i64 b:=by simp[Qm]
theorem Ke.mk(l:List Int)(full:Bool):Ke (.iS (Qm l) l.length full) l:=Qv.mk (by simp[Xv])
theorem Ke.nil:Ke .nS []:=Qv.nil
theorem Kt(l:List UInt8):Qo (Qb l)=true:=by
 induction l with
 |nil=>rfl
 |cons b l ih=>simp only[Qb,Zp4,Qo,V.pure,Zql] at ih⊢;exact ih
def Q1a(pol:Pol)(fn fr:Nat)(d:Option Nat)(ids:List (Nat×Nat))(f:FuncId):FP:=
 if(pol.prim f).isNone&&pol.pure fn f then .quiet else if(pol.prim f).isNone&&pol.lift fn f then(match d with
  |some d=> .ids ids [(fr,d)]
  |none=> .all) else if(pol.prim f).isNone&&!pol.look fn f&&pol.peek fn f then .peek else Qhp pol fn fr f
section
variable (P : Program) (pol : Pol) (C : Call) (L : Kc -> Kv) (fn fr : Nat)
def UCT(X:Option (Rt×Heap))(d:Option Nat)(k:List It)(t:List V):Out:=match X with
 |some (.ret v,H)=>U P pol C L fn fr k .normal (Qs t d v) H
 |_=>none
def UST(q far:Bool)(ids:List (Nat×Nat))(X:Option Zg)(d:Option Nat)(a:Array Oper)(r:List Oper)(T:List FP)(k:List It)(t:List V)(H:Heap):Out:=match X with
 |some (.val v none)=>U P pol C L fn fr (.opsT a r ((if q then .quiet else if far then .all else .ids ids [])::T)::k) .normal (Qs t d v) H
 |some (.val v (some (f,s,o)))=>U P pol C L fn fr (.opsT a r ((if q then .quiet else if far then .all else fpW pol fn fr ids H f s o)::T)::k) .normal (Qs t d v) (hset H f s o)
 |some (.round f s args)=>UR P pol C L fn fr (C none (.yield f s::args) H) d (.opsT a r ((if q then .quiet else .all)::T)::k) t
 |some (.call f args)=>UCT P pol C L fn fr (callOp pol C fn fr d f args H) d (.opsT a r ((if q then .quiet else if far then .all else Q1a pol fn fr d ids f)::T)::k) t
 |_=>none
def UGT(v:Option V)(want:Bool)(o:Oper)(d:Option Nat)(a:Array Oper)(r:List Oper)(T:List FP)(k:List It)(t:List V)(H:Heap):Out:=match v with
 |some (.bool b)=>if b=want then U P pol C L fn fr (.opsT a (o::r) T::k) .normal t H else U P pol C L fn fr (.opsT a r (.quiet::T)::k) .normal (Qs t d nov) H
 |some (.tuple [])=>U P pol C L fn fr (.opsT a r (.quiet::T)::k) .normal (Qs t d nov) H
 |_=>none
end
section
variable {P : Program} {pol : Pol} {C : Call} {L : Kc -> Kv} {fn fr : Nat} {r : List Oper} {t : List V} {H : Heap} {d : Option Nat} {ty u : TypeId} {ps : String} {af : Array Edge} {x y z : Operand} {k : List It} {v : V} {a : Array Oper} {T : List FP}
theorem Zco:UCT P pol C L fn fr (some (.ret v,H)) d k t=U P pol C L fn fr k .normal (Qs t d v) H:=rfl
theorem Zcf{q far:Bool}{ids:List (Nat×Nat)}:UST P pol C L fn fr q far ids (some (.val v none)) d a r T k t H=U P pol C L fn fr (.opsT a r ((if q then .quiet else if far then .all else .ids ids [])::T)::k) .normal (Qs t d v) H:=rfl
theorem Zeo{q far:Bool}{ids:List (Nat×Nat)}{f s:Nat}{o:O}:UST P pol C L fn fr q far ids (some (.val v (some (f,s,o)))) d a r T k t H=U P pol C L fn fr (.opsT a r ((if q then .quiet else if far then .all else fpW pol fn fr ids H f s o)::T)::k) .normal (Qs t d v) (hset H f s o):=rfl
theorem Q9y{q far:Bool}{ids:List (Nat×Nat)}{f:FuncId}{args:List V}:UST P pol C L fn fr q far ids (some (.call f args)) d a r T k t H=
 UCT P pol C L fn fr (callOp pol C fn fr d f args H) d (.opsT a r ((if q then .quiet else if far then .all else Q1a pol fn fr d ids f)::T)::k) t:=rfl
theorem ugt_tt{o:Oper}:UGT P pol C L fn fr (some (.bool true)) true o d a r T k t H=U P pol C L fn fr (.opsT a (o::r) T::k) .normal t H:=rfl
theorem ugt_ff{o:Oper}:UGT P pol C L fn fr (some (.bool false)) false o d a r T k t H=U P pol C L fn fr (.opsT a (o::r) T::k) .normal t H:=rfl
theorem ugt_tf{o:Oper}:UGT P pol C L fn fr (some (.bool true)) false o d a r T k t H=U P pol C L fn fr (.opsT a r (.quiet::T)::k) .normal (Qs t d nov) H:=rfl
theorem ugt_ft{o:Oper}:UGT P pol C L fn fr (some (.bool false)) true o d a r T k t H=U P pol C L fn fr (.opsT a r (.quiet::T)::k) .normal (Qs t d nov) H:=rfl
theorem ugt_no{want:Bool}{o:Oper}:UGT P pol C L fn fr (some (.tuple [])) want o d a r T k t H=U P pol C L fn fr (.opsT a r (.quiet::T)::k) .normal (Qs t d nov) H:=rfl
theorem Qmh{o:Oper}(hw:Zw a t o=some true):U P pol C L fn fr (.opsT a (o::r) T::k) .normal t H=match Q1 P pol C fn fr t H o with
 |some (.normal,t1,H1)=>U P pol C L fn fr (.opsT a r (Z0 P pol fn fr t H o::T)::k) .normal t1 H1
 |_=>none:=by
 simp only[U,Q4,hw];cases Q1 P pol C fn fr t H o with
 |none=>rfl
 |some x=>
  obtain⟨e,t1,H1⟩:=x;cases e with
  |normal=>
   simp only;cases Q4 P pol C fn fr a r t1 H1 with
   |none=>rfl
   |some y=>
    obtain⟨t2,H2,T2⟩:=y;simp only[Zqc,List.reverse_cons,Zqm,List.singleton_append]
  |_=>rfl
theorem w_opT{op:Op}:U P pol C L fn fr (.opsT a ({dst:=d,op:=op,type:=ty,pos:=ps,after:=af,guard:=none}::r) T::k) .normal t H=
 UST P pol C L fn fr (Q9 op) (Yy op) (Yp fr (rho t) {dst:=d,op:=op,type:=ty,pos:=ps,after:=af,guard:=none}) (Zm P (pol.mt fn) fr (Qd H) (rho t) {dst:=d,op:=op,type:=ty,pos:=ps,after:=af,guard:=none}) d a r T k t H:=by
 rw[Qmh rfl];simp only[Q1,Z0];cases Zm P (pol.mt fn) fr (Qd H) (rho t) {dst:=d,op:=op,type:=ty,pos:=ps,after:=af,guard:=none} with
 |none=>rfl
 |some s=>
  cases s with
  |val v w=>
   cases w with
   |none=>simp only[UST,wr]
   |some w=>obtain⟨f,s,o⟩:=w;simp only[UST,wr]
  |panic v=>rfl
  |call f args=>
   simp only[UST,UCT,Q1a];cases callOp pol C fn fr d f args H with
   |none=>rfl
   |some q=>obtain⟨q,H'⟩:=q;cases q<;>rfl
  |round f s args=>
   simp only[UST,UR];cases C none (.yield f s::args) H with
   |none=>rfl
   |some q=>obtain⟨q,H'⟩:=q;cases q with
    |ret v=>
     simp only;cases Q9 op<;>cases Yy op<;>rfl
    |pan v=>rfl
theorem Q8s{op:Op}{j:Nat}{want:Bool}:U P pol C L fn fr (.opsT a ({dst:=d,op:=op,type:=ty,pos:=ps,after:=af,guard:=some (j,want)}::r) T::k) .normal t H=
 UGT P pol C L fn fr (gd a t j) want {dst:=d,op:=op,type:=ty,pos:=ps,after:=af,guard:=none} d a r T k t H:=by
 have e:Zw a t {dst:=d,op:=op,type:=ty,pos:=ps,after:=af,guard:=some (j,want)}=match gd a t j with
  |some (.bool b)=>some (b==want)
  |some (.tuple [])=>some false
  |_=>none:=rfl
 have hf:∀t,(match Q4 P pol C fn fr a r (Qs t d nov) H with
  |some (t',H',T)=>some (t',H',FP.quiet::T)
  |none=>none).bind (fun x=>if okT (Region.before a) (loud (T.reverse++x.2.2))=true then U P pol C L fn fr k .normal x.1 x.2.1 else none)=U P pol C L fn fr (.opsT a r (.quiet::T)::k) .normal (Qs t d nov) H:=by
  intro t;simp only[U];cases Q4 P pol C fn fr a r (Qs t d nov) H with
  |none=>rfl
  |some y=>simp only[Zqc,List.reverse_cons,Zqm,List.singleton_append]
 cases hg:gd a t j with
 |none=>simp only[U,Q4,e,hg,UGT];rfl
 |some v=>
  rw[hg] at e;cases v with
  |bool b=>
   by_cases hb:b=want
   . subst hb;have e' :Zw a t {dst:=d,op:=op,type:=ty,pos:=ps,after:=af,guard:=some (j,b)}=some true:=by rw[e];simp
     rw[Qmh e'];simp only[UGT,if_true];rw[Qmh rfl];rfl
   . have e' :Zw a t {dst:=d,op:=op,type:=ty,pos:=ps,after:=af,guard:=some (j,want)}=some false:=by rw[e];simp[hb]
     simp only[UGT,hb,if_false];rw[<-hf t];simp only[U,Q4,e'];rfl
  |tuple l=>
   cases l with
   |nil=>
    simp only[UGT];rw[<-hf t];simp only[U,Q4,e];rfl
   |cons x l=>simp only[U,Q4,e,UGT];rfl
  |_=>simp only[U,Q4,e,UGT];rfl
theorem Q1l(h:okT (Region.before a) (loud T.reverse)=true):U P pol C L fn fr (.opsT a [] T::k) .normal t H=U P pol C L fn fr k .normal t H:=by rw[Q16,if_pos h]
end
theorem W.opsT{P:Program}{pol:Pol}{C:Call}{L:Kc->Kv}{fn fr:Nat}{t:List V}{H:Heap}{a:Array Oper}{T:List FP}{k:List It}{Q:Ex->List V->Heap->Prop}
 (h:okT (Region.before a) (loud T.reverse)=true)(h2:W (U P pol C L fn fr k .normal t H) Q):W (U P pol C L fn fr (.opsT a [] T::k) .normal t H) Q:=by
 rw[Q1l h];exact h2
theorem Qrg(H G:Heap)(i s:Nat):Qd (H++G) (H.length+i) s=Qd G i s:=by unfold Qd;rw[Zqn (by omega),Nat.add_sub_cancel_left]
theorem J2(H G:Heap)(s:Nat):Qd (H++G) H.length s=Qd G 0 s:=Qrg H G 0 s
theorem Q5u(F:Frame)(G:Heap)(s:Nat):Qd (F::G) 0 s=Xf F s:=rfl
theorem Q5e(F:Frame)(G:Heap)(i s:Nat):Qd (F::G) (i+1) s=Qd G i s:=rfl
theorem Qdp{α:Type}(f:α->α):∀(H G:List α) (i:Nat),(H++G).modify (H.length+i) f=H++G.modify i f
 |[],G,i=>by simp
 |x::H,G,i=>by
  rw[Zqo,show(x::H).length+i=(H.length+i)+1 by simp;omega,List.modify_succ_cons,Qdp f H G i,Zqo]
theorem Qzy(H G:Heap)(i s:Nat)(o:O):hset (H++G) (H.length+i) s o=H++hset G i s o:=by unfold hset;exact Qdp _ H G i
theorem Xx(H G:Heap)(s:Nat)(o:O):hset (H++G) H.length s o=H++hset G 0 s o:=Qzy H G 0 s o
theorem Q60(F:Frame)(G:Heap)(s:Nat)(o:O):hset (F::G) 0 s o=J3 F s o::G:=rfl
theorem Q4j(F:Frame)(G:Heap)(i s:Nat)(o:O):hset (F::G) (i+1) s o=F::hset G i s o:=rfl
def WF(H:Heap):Prop:=Zb (fun f _=>Nat.ble H.length f) H=true
theorem WF.nil:WF []:=rfl
theorem B5(p:Nat->Nat->Bool):∀(H G:Heap),Zb p (H++G)=(Zb p H&&Zb p G)
 |[],G=>by simp[Zb]
 |F::H,G=>by simp[Zb,B5 p H G,Bool.and_assoc]
mutual
theorem Qbq{p q:Nat->Nat->Bool}(h:∀a b,p a b=true->q a b=true):∀v:V,v.refs q=false->v.refs p=false
 | .gS f s cs _ _,h2=>by
   simp only[V.refs,Zqe] at h2⊢;refine⟨?_,Bj h cs h2.2⟩;cases hp:p f s with
   |false=>rfl
   |true=>rw[h _ _ hp] at h2;cases h2.1
 | .rptr cs _,h2=>by simp only[V.refs] at h2⊢;exact Bj h cs h2
 | .ptr f s _,h2| .mS f s _ _ _ _,h2| .map f s,h2| .yield f s,h2=>by
   simp only[V.refs] at h2⊢;cases hp:p f s with
   |false=>rfl
   |true=>rw[h _ _ hp] at h2;cases h2
 | .func _ a b,h2=>by simp only[V.refs,Zqe] at h2⊢;exact⟨Bj h a h2.1,Bj h b h2.2⟩
 | .face _ v,h2=>by simp only[V.refs] at h2⊢;exact Qbq h v h2
 | .agg xs,h2| .tuple xs,h2=>by simp only[V.refs] at h2⊢;exact Bj h xs h2
 | .bad,_| .bool _,_| .int _ _,_| .str _,_| .nP,_| .iptr _ _,_| .nS,_| .iS _ _ _,_| .nM,_| .nF,_| .nI,_| .byte,_=>rfl
theorem Bj{p q:Nat->Nat->Bool}(h:∀a b,p a b=true->q a b=true):∀l:List V,Qh q l=false->Qh p l=false
 |[],_=>rfl
 |x::xs,h2=>by simp only[Qh,Zqe] at h2⊢;exact⟨Qbq h x h2.1,Bj h xs h2.2⟩
end
theorem Qon{p q:Nat->Nat->Bool}(h:∀a b,p a b=true->q a b=true):∀l:List (V×V),Qhn q l=false->Qhn p l=false
 |[],_=>rfl
 |(a,b)::xs,h2=>by simp only[Qhn,Zqe] at h2⊢;exact⟨⟨Qbq h a h2.1.1,Qbq h b h2.1.2⟩,Qon h xs h2.2⟩
theorem Q1p{p q:Nat->Nat->Bool}(h:∀a b,p a b=true->q a b=true)(o:O)(h2:o.refs q=false):o.refs p=false:=by
 cases o with
 |map es bs clk=>exact Qon h es h2
 |iter m since seen stepped=>
  cases m with
  |none=>rfl
  |some x=>
   simp only[O.refs] at h2⊢;cases hp:p x.1 x.2 with
   |false=>rfl
   |true=>rw[h _ _ hp] at h2;cases h2
 |cells xs=>exact Bj h xs h2
 |loop st pend fn rid t=>exact Bj h t h2
 |_=>rfl
theorem Be{p q:Nat->Nat->Bool}(h:∀a b,p a b=true->q a b=true):∀F:Frame,Q0 q F=true->Q0 p F=true
 |[],_=>rfl
 |(s,o)::r,h2=>by
  simp only[Q0,Zqf,Zqg] at h2⊢;exact⟨Q1p h o h2.1,Be h r h2.2⟩
theorem Qgw{p q:Nat->Nat->Bool}(h:∀a b,p a b=true->q a b=true):∀H:Heap,Zb q H=true->Zb p H=true
 |[],_=>rfl
 |F::r,h2=>by
  simp only[Zb,Zqf] at h2⊢;exact⟨Be h F h2.1,Qgw h r h2.2⟩
theorem Qlk{n m:Nat}(h:n<=m)(a b:Nat):(fun f (_:Nat)=>Nat.ble m f) a b=true->(fun f (_:Nat)=>Nat.ble n f) a b=true:=by simp only[Nat.ble_eq];omega
theorem WF.app{H G:Heap}(h:WF H)(h2:Zb (fun f _=>Nat.ble (H.length+G.length) f) G=true):WF (H++G):=by unfold WF;rw[B5,Zqp,h2,Zqq];exact Qgw (Qlk (by omega)) H h
theorem Br{H G:Heap}{v:V}(hv:v.refs (fun f _=>Nat.ble H.length f)=false)(hw:WF H):Bs H.length v (H++G)=H:=by
 unfold Bs;have e:(H++G).take H.length=H:=by simp
 rw[hv,e];unfold WF at hw;rw[hw];rfl
theorem Z2{b:Nat}{H:Heap}{v:V}(hv:v.refs (fun f _=>Nat.ble b f)=true):Bs b v H=H:=by unfold Bs;rw[hv];rfl
section
variable {P : Program} {t t2 e e2 : TypeId} {n by_ m : Nat} {z cs : List V} {x : V} {g : Get} {mt : Nat -> Bool} {fr : Nat} {dst : Option Nat} {d : Nat}
theorem Qfd(hu:P.underlying t=some (.slice e))(hs:sz P e=some n)(hb:byt P e=some by_)(hz:zeroCells P e=some z)(hzl:z.length=n)(ht:P.underlying t2=some (.slice e2)){s:V}(hsl:Qv8 s=true)
 (hx:Qj g n x=some (cs,0)):Qp P mt fr g dst t t2 s x=some (.val s none):=by
 simp only[Qp,hu,hs,hb,hz,hzl,if_true,Jp,ht,hx,hsl]
theorem Qbu(hu:P.underlying t=some (.slice e))(hs:sz P e=some n)(hb:byt P e=some by_)(hz:zeroCells P e=some z)(hzl:z.length=n)(ht:P.underlying t2=some (.slice e2))
 (hx:Qj g n x=some (cs,m))(hm:0<m)(hr:J6 m by_=true):Qp P mt fr g dst t t2 .nS x=grown mt g fr dst cs cs m n:=by
 obtain⟨m,rfl⟩:∃k,m=k+1:=⟨m-1,by omega⟩;simp only[Qp,hu,hs,hb,hz,hzl,if_true,Jp,ht,hx,appendTo,hr]
theorem Qpx{c0:List V}{k:Nat}(hu:P.underlying t=some (.slice e))(hs:sz P e=some n)(hb:byt P e=some by_)(hz:zeroCells P e=some z)(hzl:z.length=n)(ht:P.underlying t2=some (.slice e2))
 (hx:Qj g n x=some (cs,m))(hm:0<m)(hc:c0.length=k*n)(hr:J6 (k+m) by_=true):Qp P mt fr g dst t t2 (.iS c0 k true) x=grown mt g fr dst (c0++cs) cs (k+m) n:=by
 obtain⟨m,rfl⟩:∃k,m=k+1:=⟨m-1,by omega⟩;simp only[Qp,hu,hs,hb,hz,hzl,if_true,Jp,ht,hx,appendTo,hr,hc,and_self]
theorem Qca{c0:List V}{f s k:Nat}(hu:P.underlying t=some (.slice e))(hs:sz P e=some n)(hb:byt P e=some by_)(hz:zeroCells P e=some z)(hzl:z.length=n)(ht:P.underlying t2=some (.slice e2))
 (hx:Qj g n x=some (cs,m))(hm:0<m)(hr:J6 (k+m) by_=true)(_:Qo cs=true)(hsc:cs.all V.scalar=true)(hg:g f s=some (.grow k)):
 Qp P mt fr g dst t t2 (.gS f s c0 k n) x=some (.val (.gS f s (c0++cs) (k+m) n) (some (f,s,.grow (k+m)))):=by
 obtain⟨m,rfl⟩:∃k,m=k+1:=⟨m-1,by omega⟩;simp only[Qp,hu,hs,hb,hz,hzl,if_true,Jp,ht,hx,appendTo,hr,hsc,hg,and_self]
theorem Qez{chk:List V}(hd:mt d=true)(hsc:cs.all V.scalar=true)(hg:g fr d=none):grown mt g fr (some d) cs chk m n=some (.val (.mS fr d 0 m none n) (some (fr,d,.cells cs))):=by simp only[grown,hd,if_true,hsc,new,hg]
theorem Bc{chk:List V}(hd:mt d=false)(_:Qo chk=true)(hg:g fr d=none):grown mt g fr (some d) cs chk m n=some (.val (.gS fr d cs m n) (some (fr,d,.grow m))):=by simp only[grown,hd,Zpo,if_false,new,hg]
end
theorem Q3{P:Program}{mt:Nat->Bool}{fr:Nat}{g:Get}{d:Option Nat}{t t2:TypeId}{s x:V}:builtinV P mt fr g d .append #[t,t2] [s,x]=Qp P mt fr g d t t2 s x:=rfl
theorem Qoi{P:Program}{mt:Nat->Bool}{fr:Nat}{g:Get}{d:Option Nat}{t t2:TypeId}{s x:V}:builtinV P mt fr g d .copy #[t,t2] [s,x]=Qa3 P g t s x:=rfl
theorem Jg{m by_:Nat}(h:m*by_<=35184372088832)(h2:m<=35184372088832):J6 m by_=true:=by simp[J6,h,h2]
theorem Z5(l:List UInt8):(Qb l).all V.scalar=true:=by simp[Qb,V.scalar]
theorem Qsw(l:List Int):(Qm l).all V.scalar=true:=by simp[Qm,V.scalar]
end Go.AM
end
section
namespace Go.AM
theorem Qfx(g:Get)(n:Nat):∀l:List UInt8,Qx (frz g (n+1)) (Qb l)=some (Qb l)
 |[]=>rfl
 |b::l=>by
  have:=Qfx g n l;simp only[Qb,Zp4] at this⊢;exact Qa rfl this
theorem Qdu(g:Get)(n:Nat):∀l:List Int,Qx (frz g (n+1)) (Qm l)=some (Qm l)
 |[]=>rfl
 |b::l=>by
  have:=Qdu g n l;simp only[Qm,Zp4] at this⊢;exact Qa rfl this
theorem Zb6{g:Get}{cs cs' :List V}(h:Qx (frz g 11) cs=some cs'):frz g depth (.tuple cs)=some (.tuple cs'):=by show(Qx (frz g 11) cs).map V.tuple=_;rw[h];rfl
theorem Qxc(l:List UInt8)(i:Nat)(b:UInt8)(h:i<l.length):splice (Qb l) i [.int .u8 b.toNat]=Qb (l.set i b):=by simp only[splice,Qb,List.length_singleton,List.map_set];rw[List.set_eq_take_append_cons_drop,if_pos (by simpa using h)];simp
section
variable {P : Program} {u e : TypeId} {g : Get}
theorem Qyx(hu:P.underlying u=some (.slice e)){q:Nat}(hs:sz P e=some q){f s o len:Nat}{cap:Option Nat}{k:IntKind}{i:Int}(h0:0<=i)(hi:i<len):Qu P u (.mS f s o len cap q) (.int k i)=some (.ptr f s (o+i.toNat*q)):=by simp only[Qu,hu,hs];rw[if_pos ⟨h0,hi,trivial⟩]
theorem at_r(hu:P.underlying u=some (.slice e)){q:Nat}(hs:sz P e=some q){f s len:Nat}{cs:List V}{k:IntKind}{i:Int}(hp:Qo cs=false)(h0:0<=i)(hi:i<len):Qu P u (.gS f s cs len q) (.int k i)=some (.rptr cs (i.toNat*q)):=by simp only[Qu,hu,hs,hp,Zpo,if_false];rw[if_pos ⟨h0,hi,trivial⟩]
theorem Q7l(hu:P.underlying u=some (.slice e)){f s o len esz:Nat}{cap:Option Nat}:∀g,B0 P g u (.mS f s o len cap esz)=some (.int .i64 len):=fun g=>by simp only[B0,hu]
theorem len_g(hu:P.underlying u=some (.slice e)){f s len esz:Nat}{cs:List V}:∀g,B0 P g u (.gS f s cs len esz)=some (.int .i64 len):=fun g=>by simp only[B0,hu]
end
theorem Kr(p:Nat->Nat->Bool):∀l:List UInt8,Qh p (Qb l)=false
 |[]=>rfl
 |b::l=>by
  have:=Kr p l;simp only[Qb,Zp4,Qh,V.refs,Zqr] at this⊢;exact this
theorem Qv.cells1{esz n:Nat}{v:V}{cells:List V}(h:Qv esz v cells n):v.cells=some [v]:=by obtain⟨_,⟨rfl,_⟩|⟨f,rfl⟩⟩:=h<;>rfl
theorem Q4k{k:IntKind}{n:Int}:(V.int k n).cells=some [.int k n]:=rfl
theorem Q2i{b:Bool}:(V.bool b).cells=some [.bool b]:=rfl
theorem Q57{s:List UInt8}:(V.str s).cells=some [.str s]:=rfl
theorem Qwx:V.nP.cells=some [.nP]:=rfl
theorem Q5c{f s o:Nat}:(V.ptr f s o).cells=some [.ptr f s o]:=rfl
theorem Q08{c:List V}{o:Nat}:(V.iptr c o).cells=some [.iptr c o]:=rfl
theorem Qo0:V.nS.cells=some [.nS]:=rfl
theorem Qv5{c:List V}{n:Nat}{f:Bool}:(V.iS c n f).cells=some [.iS c n f]:=rfl
theorem Qv1{f s:Nat}{c:List V}{n e:Nat}:(V.gS f s c n e).cells=some [.gS f s c n e]:=rfl
theorem Qw4{f s o n e:Nat}{c:Option Nat}:(V.mS f s o n c e).cells=some [.mS f s o n c e]:=rfl
theorem Qwp:V.nM.cells=some [.nM]:=rfl
theorem Q5a{f s:Nat}:(V.map f s).cells=some [.map f s]:=rfl
theorem Q0c{f:Fn}{a b:List V}:(V.func f a b).cells=some [.func f a b]:=rfl
theorem Qr9:V.nF.cells=some [.nF]:=rfl
theorem Qso:V.nI.cells=some [.nI]:=rfl
theorem Q2m{t:TypeId}{v:V}:(V.face t v).cells=some [.face t v]:=rfl
theorem Je{P:Program}{t e:TypeId}(hu:P.underlying t=some (.slice e)){x y:Operand}{cs:List V}{n:Nat}{f:Bool}:Zj P .eql t x y (.iS cs n f) .nS=some (.bool false):=by simp[Zj,Qj8,hu,Jn,Q4c,V.isNil]
theorem wrap_i64{n:Int}(h1: -9223372036854775808<=n)(h2:n<=9223372036854775807):(IntKind.i64).wrap n=n:=by rw[IntKind.wrap_i64];omega
theorem Y1{i:Nat}(h:i<9223372036854775807):(IntKind.i64).wrap ((i:Int)+1)=((i+1:Nat):Int):=by rw[wrap_i64]<;>omega
end Go.AM
end
section
namespace Go.AM
section
variable {P : Program} {u e : TypeId} {g : Get}
theorem Qq7(hu:P.underlying u=some (.slice e)){q:Nat}(hs:sz P e=some q){f s o len c:Nat}{w:Nat}{k:IntKind}(h:w<=len)(hc:len<=c):
 ∀g,Z9 P g u (.mS f s o len (some c) q) (some (.int k w)) none none=some (.mS f s (if c=w then o else o+w*q) (len-w) (some (c-w)) q):=by
 intro g;simp only[Z9,By,hu,hs,if_true,Qsm,Qat,Zqi,Zqs];rw[if_pos ⟨by omega,by omega,by omega,by omega,by omega,by omega,by simp⟩];simp
theorem Quy(xs m:List UInt8)(o:Nat):splice (Qb xs) o (Qb m)=Qb (xs.take o++m++xs.drop (o+m.length)):=by simp[splice,Qb]
theorem Q1q(hu:P.underlying u=some (.slice e))(hs:sz P e=some 1){f s o n:Nat}{cap:Option Nat}{xs m:List UInt8}{v:V}(hg:g f s=some (.cells (Qb xs)))(ho:o+n<=xs.length)(hv:Qj g 1 v=some (Qb m,m.length))(hns:∀l,v≠ .str l):
 Qa3 P g u (.mS f s o n cap 1) v=some (.val (.int .i64 (min m.length n:Nat)) (some (f,s,.cells (Qb (xs.take o++m.take (min m.length n)++xs.drop (o+min m.length n)))))):=by
 have e1:Ba g 1 v=some (Qb m,m.length):=by
  cases v with
  |str l=>exact absurd rfl (hns l)
  |_=>exact hv
 have e2:((Qb m).take (min m.length n*1)).all V.scalar=true:=by rw[Qa6];exact Z5 _
 simp only[Qa3,hu,hs,e1,Qau,if_true,hg,Zp7,Za];rw[Zp7] at e2;rw[if_pos ⟨ho,e2⟩,Qa6,Quy];simp only[Zqj];rw[show min (min m.length n) m.length=min m.length n by omega]
end
def FP.kind:FP->Nat
 | .quiet=>0
 | .ids _ []=>1
 | .peek=>1
 |_=>2
def okK(bef:Array Nat):List (Nat×Nat)->Bool
 |[]=>true
 |(a,i)::r=>r.all (fun(b,j)=>(bef.getD j 0).testBit i||(Nat.ble a 1&&Nat.ble b 1))&&okK bef r
theorem Q0z:∀a b:FP,Nat.ble a.kind 1=true->Nat.ble b.kind 1=true->a.indep b=true
 | .quiet,_,_,_=>rfl
 | .ids _ [],.quiet,_,_=>rfl
 | .ids _ (_::_),.quiet,_,_=>rfl
 | .all,.quiet,_,_=>rfl
 | .peek,.quiet,_,_=>rfl
 | .peek,.peek,_,_=>rfl
 | .peek,.ids _ [],_,_=>rfl
 | .ids _ [],.peek,_,_=>rfl
 | .ids _ [],.ids _ [],_,_=>rfl
 | .ids _ (_::_),_,h,_=>by cases h
 | .all,_,h,_=>by cases h
 |_,.ids _ (_::_),_,h=>by cases h
 | .side _ _,_,h,_=>by cases h
 | .fresh _,_,h,_=>by cases h
 |_,.all,_,h=>by cases h
 |_,.side _ _,_,h=>by cases h
 |_,.fresh _,_,h=>by cases h
theorem Qpj(bef:Array Nat):∀T:List (FP×Nat),okK bef (T.map fun x=>(x.1.kind,x.2))=true->okT bef T=true
 |[],_=>rfl
 |(a,i)::r,h=>by
  simp only[Zp4,okK,Zqf,Zqt] at h;simp only[okT,Zqf,Zqt];refine⟨fun x hx=>?_,Qpj bef r h.2⟩;have:=h.1 (x.1.kind,x.2) (Zp3.2 ⟨x,hx,rfl⟩);simp only[Zqu,Zqf] at this⊢;exact this.imp id fun⟨p,q⟩=>Q0z _ _ p q
theorem W.opsK{P:Program}{pol:Pol}{C:Call}{L:Kc->Kv}{fn fr:Nat}{t:List V}{H:Heap}{a:Array Oper}{T:List FP}{k:List It}{Q:Ex->List V->Heap->Prop}
 (h:okK (Region.before a) ((loud T.reverse).map fun x=>(x.1.kind,x.2))=true)(h2:W (U P pol C L fn fr k .normal t H) Q):W (U P pol C L fn fr (.opsT a [] T::k) .normal t H) Q:=
 W.opsT (Qpj _ _ h) h2
theorem Qv.notStr{esz n:Nat}{v:V}{cells:List V}(h:Qv esz v cells n)(l:List UInt8):v≠ .str l:=by obtain⟨_,⟨rfl,_⟩|⟨f,rfl⟩⟩:=h<;>simp
end Go.AM
end
section
namespace Go.AM
section
variable {P : Program} {t e : TypeId} {n : Nat} {y : V}
theorem Qi0(he:P.underlying e=some (.int .u8)):∀(ys:List (List V)),(∀y∈ys,Zz P n e y)->∃l:List UInt8,ys.flatten=Qb l/\l.length=ys.length
 |[],_=>⟨[],rfl,rfl⟩
 |y::ys,h=>by
  obtain⟨l,h1,h2⟩:=Qi0 he ys fun z hz=>h z (by simp[hz]);have hy:=h y (by simp);cases n with
  |zero=>exact hy.elim
  |succ n=>
   unfold Zz at hy;rw[he] at hy;obtain⟨m,rfl,hm⟩:=hy;have hr:0<=m/\m<=255:=by simpa [Lit.wf,IntKind.min,IntKind.max,IntKind.signed,IntKind.bits] using hm
   refine⟨UInt8.ofNat m.toNat::l,?_,by simp[h2]⟩;simp only[Zqv,h1,Qb,Zp4,List.singleton_append,List.cons.injEq,and_true,V.int.injEq,true_and];have:(UInt8.ofNat m.toNat).toNat=m.toNat:=by simp[UInt8.toNat_ofNat'];omega
   rw[this];omega
end
theorem Qkm{P:Program}{s d e:TypeId}{g:Get}{x:V}{l:List UInt8}{n:Nat}(hs:P.underlying s=some (.slice e))(he:P.underlying e=some (.int .u8))(hd:P.underlying d=some .string)(h:Qj g 1 x=some (Qb l,n)):
 convertV P g s d x=some (.val (.str l) none):=by
 have hn:∀l,x≠ .str l:=by intro l e;subst e;simp[Qj] at h
 have hn2:∀k m,x≠ .int k m:=by intro k m e;subst e;simp[Qj] at h
 simp only[convertV,hs,hd,he,h,Qcd,Zpl]
end Go.AM
end
section
namespace Go.AM
def itF:Code->Option (Option Nat×List It)
 | .region _ ops false=>(match ops.toList with
   |o::r=>some (o.dst,[.ops ops r])
   |[]=>none)
 | .seq a b=>(match itF a with
   |some (d,k)=>some (d,k++[.code b])
   |none=>none)
 |_=>none
section
variable {P : Program} {pol : Pol} {C : Call} {L : Kc -> Kv} {fn fr : Nat} {t : List V} {H : Heap} {Q : Ex -> List V -> Heap -> Prop}
theorem Jy:∀(k k' :List It) (e:Ex) (t:List V) (H:Heap),U P pol C L fn fr (k++k') e t H=(U P pol C L fn fr k e t H).bind fun x=>U P pol C L fn fr k' x.1 x.2.1 x.2.2
 |[],_,_,_,_=>rfl
 | .code c::k,k',e,t,H=>by
   cases e with
   |normal=>
    simp only[Zqo,U];cases Q6 P pol C L fn fr c t H with
    |none=>rfl
    |some x=>exact Jy k k' x.1 x.2.1 x.2.2
   |exit i=>exact Jy k k' _ t H
   |ret=>exact Jy k k' _ t H
   |panic v=>exact Jy k k' _ t H
 | .ops a l::k,k',e,t,H=>by
   cases e with
   |normal=>
    simp only[Zqo,U];cases Zf P pol C fn fr a l t H with
    |none=>rfl
    |some x=>exact Jy k k' x.1 x.2.1 x.2.2
   |exit i=>exact Jy k k' _ t H
   |ret=>exact Jy k k' _ t H
   |panic v=>exact Jy k k' _ t H
 | .opsT a l T::k,k',e,t,H=>by
   cases e with
   |normal=>
    simp only[Zqo,U];cases Q4 P pol C fn fr a l t H with
    |none=>rfl
    |some x=>
     simp only[Zqc];split
     . exact Jy k k' _ _ _
     . rfl
   |exit i=>exact Jy k k' _ t H
   |ret=>exact Jy k k' _ t H
   |panic v=>exact Jy k k' _ t H
 | .block id::k,k',e,t,H=>by
   cases e with
   |exit i=>
    simp only[Zqo,U];split
    . exact Jy k k' _ t H
    . exact Jy k k' _ t H
   |normal=>exact Jy k k' _ t H
   |ret=>exact Jy k k' _ t H
   |panic v=>exact Jy k k' _ t H
theorem Q8t{v:V}{w:Option (Nat×Nat×O)}:∀{c:Code} {d:Option Nat} {k:List It},itF c=some (d,k)->∀(t:List V) (H:Heap),Z7 P pol C L fn fr c v w t H=U P pol C L fn fr k .normal (Qs t d v) (wr H w):=by
 intro c
 induction c with
 |region id ops draw=>
  intro d k h t H;cases draw with
  |true=>cases h
  |false=>
   simp only[itF] at h;simp only[Z7];cases ho:ops.toList with
   |nil=>rw[ho] at h;cases h
   |cons o r=>
    rw[ho] at h;cases h;simp only[U];cases Zf P pol C fn fr ops r (Qs t o.dst v) (wr H w) with
    |none=>rfl
    |some x=>rfl
 |seq a b iha ihb=>
  intro d k h t H;simp only[itF] at h;cases ha:itF a with
  |none=>rw[ha] at h;cases h
  |some x=>
   obtain⟨d',k'⟩:=x;rw[ha] at h;cases h;simp only[Z7,iha ha,Jy];cases U P pol C L fn fr k' .normal (Qs t d v) (wr H w) with
   |none=>rfl
   |some x=>
    obtain⟨e,t1,H1⟩:=x;cases e with
    |normal=>simp only[Zqc,Qwj]
    |exit i=>rfl
    |ret=>rfl
    |panic v=>rfl
 |_=>intro d k h;cases h
theorem Q8m{α:Type}{b:Code}{x:Operand}{d:Option Nat}{k:List It}(hn:Zt b=some x)(hi:itF b=some (d,k))(R:Ex×List V×Heap)(I:α->List V->Heap->Prop)(m:α->Nat)
 (step:∀a t H,I a t H->∃t1 H1 cs,forget pol fn fr (Zn b) t H=some (t1,H1)/\Y3 (Qd H1) (rho t1 x)=some cs/\
   ∀c∈cs,W (U P pol C Z1 fn fr k .normal (Qs t1 d c.1) (wr H1 c.2)) fun e t2 H2=>match e with
    | .normal=>∃a',I a' t2 H2/\m a' <m a
    |e=>R=(e,t2,H2))(a:α)(h:I a t H):Z1 (round P pol C Z1 fn fr b) t H=some R:=by
 induction hm:m a using Nat.strongRecOn generalizing a t H with
 |ind n ih=>
  subst hm;obtain⟨t1,H1,cs,h1,h2,h3⟩:=step a t H h;rw[Qzr];have hr:round P pol C Z1 fn fr b t H=cs.map fun c=>U P pol C Z1 fn fr k .normal (Qs t1 d c.1) (wr H1 c.2):=by simp only[round,h1,hn,h2,Q8t hi]
  rw[hr];refine Qey (by simpa using Zbg h2) fun y hy=>?_;rw[List.map_map] at hy;obtain⟨c,hc,rfl⟩:=Zp3.1 hy;obtain⟨e,t2,H2,q1,q2⟩:=(h3 c hc).out;simp only[Function.comp,q1];cases e with
  |normal=>
   obtain⟨a',q3,q4⟩:=q2;exact ih _ q4 a' q3 rfl
  |exit i=>exact congrArg some q2.symm
  |ret=>exact congrArg some q2.symm
  |panic v=>exact congrArg some q2.symm
theorem W.range{α:Type}{b:Code}{x:Operand}{d:Option Nat}{k:List It}(hn:Zt b=some x)(hi:itF b=some (d,k))(R:Ex×List V×Heap)(I:α->List V->Heap->Prop)(m:α->Nat)
 (step:∀a t H,I a t H->∃t1 H1 cs,forget pol fn fr (Zn b) t H=some (t1,H1)/\Y3 (Qd H1) (rho t1 x)=some cs/\
   ∀c∈cs,W (U P pol C Z1 fn fr k .normal (Qs t1 d c.1) (wr H1 c.2)) fun e t2 H2=>match e with
    | .normal=>∃a',I a' t2 H2/\m a' <m a
    |e=>R=(e,t2,H2))(a:α)(h:I a t H)(hQ:Q R.1 R.2.1 R.2.2):W (Z1 (round P pol C Z1 fn fr b) t H) Q:=by
 rw[Q8m hn hi R I m step a h];exact hQ
theorem Q5p{g:Get}{f s:Nat}{m:Nat×Nat}{since stepped clk:Nat}{seen:List Nat}{es:List (V×V)}{bs:List Nat}(h1:g f s=some (.iter (some m) since seen stepped))(h2:g m.1 m.2=some (.map es bs clk))
 (h3:∀b∈bs,b<since)(h4:since<=stepped):∃cs,Y3 g (.ptr f s 0)=some cs/\∀c∈cs,(Ki seen es bs=[]/\c=(.tuple [.bool false],some (f,s,.dead)))\/
   ∃e∈Ki seen es bs,c=(.tuple [.bool true,e.1.1,e.1.2],some (f,s,.iter (some m) since (seen++[e.2]) clk)):=by
 have hall:(bs.all (fun b=>decide (b<since))&&decide (since<=stepped))=true:=by rw[Zqf,Zqt];exact⟨fun b hb=>Zsw (h3 b hb),Zsw h4⟩
 simp only[Y3,h1,h2,hall,if_true];cases hl:Ki seen es bs with
 |nil=>exact⟨_,rfl,fun c hc=> .inl ⟨rfl,Zp9.1 hc⟩⟩
 |cons y l=>
  refine⟨_,rfl,fun c hc=> .inr ?_⟩;obtain⟨e,he,rfl⟩:=Zp3.1 hc;exact⟨e,he,rfl⟩
end
end Go.AM
end
section
namespace Go.AM
def Yg(P:Program)(t:TypeId)(i:Nat):Option (Nat×TypeId):=
 match P.underlying t with
 |some (.struct fs)=>(match fs[i]? with
  |some f=>(match sz P f.type with
   |some n=>if n=0 then none else some (f.offset,f.type)
   |none=>none)
  |none=>none)
 |_=>none
def plOf(P:Program)(t:TypeId):Option (List (Nat×Nat)):=
 match P.underlying t with
 |some (.struct fs)=>Qg4 P fs.toList
 |_=>none
def ffOf(P:Program)(t:TypeId)(i:Nat):Option (Nat×TypeId):=
 match P.underlying t with
 |some (.struct fs)=>(match fs[i]? with
  |some f=>some (f.offset,f.type)
  |none=>none)
 |_=>none
def faV(off:Nat):V->Option V
 | .ptr a b o=>some (.ptr a b (o+off))
 | .iptr cs o=>some (.iptr cs (o+off))
 | .rptr cs o=>some (.rptr cs (o+off))
 |_=>none
def faO:Option (Nat×TypeId)->V->Option V
 |some x,v=>faV x.1 v
 |none,_=>none
def fvO(P:Program):Option (Nat×TypeId)->V->Option V
 |some x,.agg cs=>Qck P x.2 cs x.1
 |_,_=>none
section
variable {P : Program} {mt : Nat -> Bool} {fr : Nat} {g : Get} {r : Operand -> V} {d : Option Nat} {ty u : TypeId} {ps : String} {af : Array Edge} {gd : Option (Nat × Bool)} {x : Operand}
theorem ev_fa{t:TypeId}{i:Nat}:Zm P mt fr g r {dst:=d,op:= .fieldAddr t x i,type:=ty,pos:=ps,after:=af,guard:=gd}=(faO (Yg P t i) (r x)).map fun v=> .val v none:=by
 unfold Yg;simp only[Zm];cases P.underlying t with
 |none=>rfl
 |some dd=>
  cases dd with
  |struct fs=>
   simp only;cases fs[i]? with
   |none=>rfl
   |some f=>
    simp only;cases sz P f.type with
    |none=>rfl
    |some n=>
     simp only;by_cases h0:n=0
     . simp only[h0,if_true];rfl
     . simp only[h0,if_false];cases r x<;>rfl
  |_=>rfl
theorem Zba{t:TypeId}{i:Nat}:Zm P mt fr g r {dst:=d,op:= .field t x i,type:=ty,pos:=ps,after:=af,guard:=gd}=(fvO P (ffOf P t i) (r x)).map fun v=> .val v none:=by
 unfold ffOf;simp only[Zm];cases P.underlying t with
 |none=>rfl
 |some dd=>
  cases dd with
  |struct fs=>
   cases r x<;>simp only<;>cases fs[i]?<;>rfl
  |_=>rfl
theorem Qm1{t:TypeId}{z:List V}{ps:List (Nat×Nat)}(hz:zeroCells P t=some z)(hp:plOf P t=some ps)(parts:List (Nat×V)):Bl P t parts=(B1 (fun i=>ps[i]?) z parts).map .agg:=by
 unfold plOf at hp;unfold Bl;rw[hz];split at hp
 case h_2=>cases hp
 rename_i fs hu;rw[hu];simp only[hp]
theorem fa_ptr{off a b o:Nat}:faV off (.ptr a b o)=some (.ptr a b (o+off)):=rfl
theorem Zdi{off o:Nat}{cs:List V}:faV off (.iptr cs o)=some (.iptr cs (o+off)):=rfl
theorem Q7g{off:Nat}{t:TypeId}{v:V}:faO (some (off,t)) v=faV off v:=rfl
theorem fv_agg{t:TypeId}{off:Nat}{cs:List V}:fvO P (some (off,t)) (.agg cs)=Qck P t cs off:=rfl
end
end Go.AM
end
section
namespace Go.AM
def ldO(P:Program)(t:TypeId)(o:Nat):Option O->Option V
 |some (.cells xs)=>Qr P t xs o
 |_=>none
def ldV(P:Program)(t:TypeId)(g:Get):V->Option V
 | .ptr f s o=>ldO P t o (g f s)
 | .iptr cs o=>Qr P t cs o
 | .rptr cs o=>Qr P t cs o
 |_=>none
def stO(n f s o:Nat)(cs:List V):Option O->Option Zg
 |some (.cells xs)=>if cs.length=n/\o+n<=xs.length then some (.val .bad (some (f,s,.cells (splice xs o cs)))) else none
 |_=>none
def stV(g:Get):Option Nat->V->Option (List V)->Option Zg
 |some n,.ptr f s o,some cs=>stO n f s o cs (g f s)
 |_,_,_=>none
section
variable {P : Program} {mt : Nat -> Bool} {fr : Nat} {g : Get} {r : Operand -> V} {d : Option Nat} {ty u : TypeId} {ps : String} {af : Array Edge} {gd : Option (Nat × Bool)} {x a : Operand}
theorem Zcj{t:TypeId}:Zm P mt fr g r {dst:=d,op:= .load t a,type:=ty,pos:=ps,after:=af,guard:=gd}=(ldV P t g (r a)).map fun v=> .val v none:=by
 simp only[Zm];cases r a with
 |ptr f s o=>
  simp only[ldV];cases g f s with
  |none=>rfl
  |some q=>cases q<;>rfl
 |_=>rfl
theorem Q7s{t:TypeId}:Zm P mt fr g r {dst:=d,op:= .store t a x,type:=ty,pos:=ps,after:=af,guard:=gd}=stV g (sz P t) (r a) (r x).cells:=by
 simp only[Zm];cases sz P t with
 |none=>cases r a<;>first|rfl|(cases(r x).cells<;>rfl)
 |some n=>
  cases r a with
  |ptr f s o=>
   cases(r x).cells with
   |none=>rfl
   |some cs=>
    simp only[stV];cases g f s with
    |none=>rfl
    |some q=>cases q<;>rfl
  |_=>rfl
theorem ld_ptr{t:TypeId}{f s o:Nat}:ldV P t g (.ptr f s o)=ldO P t o (g f s):=rfl
theorem Zde{t:TypeId}{o:Nat}{cs:List V}:ldV P t g (.iptr cs o)=Qr P t cs o:=rfl
theorem Q5n{t:TypeId}{o:Nat}{xs:List V}:ldO P t o (some (.cells xs))=Qr P t xs o:=rfl
theorem st_ptr{n f s o:Nat}{cs:List V}:stV g (some n) (.ptr f s o) (some cs)=stO n f s o cs (g f s):=rfl
theorem Q6s{n f s o:Nat}{cs xs:List V}:stO n f s o cs (some (.cells xs))=if cs.length=n/\o+n<=xs.length then some (.val .bad (some (f,s,.cells (splice xs o cs)))) else none:=rfl
theorem Qef{t:TypeId}{dd:TypeDesc}{n:Nat}(h:P.underlying t=some dd)(hs:sz P t=some n)(ha:Qn8 dd=true)(cs:List V)(o:Nat):
 Qr P t cs o=if o+n<=cs.length then some (.agg ((cs.drop o).take n)) else none:=by
 simp only[Qr,h,hs,ha,if_true]
theorem Q6h{cs:List V}:(V.agg cs).cells=if cs.all V.scalar then some cs else none:=rfl
theorem Zel{b:Bool}:(V.bool b).scalar=true:=rfl
theorem sc_int{k:IntKind}{n:Int}:(V.int k n).scalar=true:=rfl
theorem sc_str{s:List UInt8}:(V.str s).scalar=true:=rfl
theorem Q4r:V.nP.scalar=true:=rfl
theorem sc_ptr{f s o:Nat}:(V.ptr f s o).scalar=true:=rfl
theorem Zce{cs:List V}{o:Nat}:(V.iptr cs o).scalar=true:=rfl
theorem Qyd:V.nS.scalar=true:=rfl
theorem Q5i{cs:List V}{n:Nat}{b:Bool}:(V.iS cs n b).scalar=true:=rfl
theorem Q42{f s o n:Nat}{c:Option Nat}{e:Nat}:(V.mS f s o n c e).scalar=true:=rfl
theorem Q5x{f s n e:Nat}{cs:List V}:(V.gS f s cs n e).scalar=true:=rfl
theorem Q6o:V.nM.scalar=true:=rfl
theorem sc_map{f s:Nat}:(V.map f s).scalar=true:=rfl
theorem Zcd{f:Fn}{a b:List V}:(V.func f a b).scalar=true:=rfl
end
end Go.AM
end
section
namespace Go.AM
theorem Zcv{b:Bool}:unV .not (.bool b)=some (.bool !b):=rfl
abbrev Qki:=And.intro @u_seq<|And.intro @Zaa<|And.intro @Zdr<|And.intro @w_op<|And.intro @us_val<|And.intro @Zb4<|And.intro @Q9w<|And.intro @uc_ret<|And.intro @uc_pan<|And.intro @w_cond<|And.intro @Zb3<|And.intro @Q9o<|And.intro @w_opT<|And.intro @Zcf<|And.intro @Zeo<|And.intro @Q9y<|And.intro @Zco<|And.intro @Q8s<|And.intro @ugt_tt<|And.intro @ugt_ff<|And.intro @ugt_tf<|And.intro @ugt_ft<|And.intro @u_draw<|And.intro @Zdd<|And.intro @ug_tt<|And.intro @ug_ff<|And.intro @ug_tf<|And.intro @ug_ft<|And.intro @ug_no<|And.intro @ugt_no<|And.intro @w_loop<|And.intro @Zca<|And.intro @Q6v<|And.intro @u_skip<|And.intro @u_ret<|And.intro @u_exit<|And.intro @u_nil<|And.intro @Q14<|And.intro @Qz3<|And.intro @Qvs<|And.intro @Qpt<|And.intro @Qxi<|And.intro @Qsf<|And.intro @Qvu<|And.intro @b_add<|And.intro @b_sub<|And.intro @b_mul<|And.intro @b_eql<|And.intro @b_neq<|And.intro @b_lss<|And.intro @b_leq<|And.intro @b_gtr<|And.intro @b_geq<|And.intro @b_sadd<|And.intro @b_seql<|And.intro @b_sneq<|And.intro @oc_int<|And.intro @Zcz<|And.intro @oc_str<|And.intro @Qw5<|And.intro @Q4y<|And.intro @Q4t<|And.intro @Q1w<|And.intro @Q2g<|And.intro @bi_len<|And.intro @bi_max<|And.intro @bi_min<|And.intro @mx_nil<|And.intro @mx_one<|And.intro @Q2o<|And.intro @Qwi<|And.intro @Zcy<|And.intro @Q8f<| @Zdy
abbrev Qh1:=And.intro @Zcv<|And.intro @Q7g<|And.intro @fa_ptr<|And.intro @Zdi<|And.intro @fv_agg<|And.intro @ld_ptr<|And.intro @Zde<|And.intro @Q5n<|And.intro @st_ptr<|And.intro @Q6h<|And.intro @Zel<|And.intro @sc_int<|And.intro @sc_str<|And.intro @Q4r<|And.intro @sc_ptr<|And.intro @Zce<|And.intro @Qyd<|And.intro @Q5i<|And.intro @Q42<|And.intro @Q5x<|And.intro @Q6o<|And.intro @sc_map<| @Zcd
abbrev walkB:=And.intro @Q4k<|And.intro @Q2i<|And.intro @Q57<|And.intro @Qwx<|And.intro @Q5c<|And.intro @Q08<|And.intro @Qo0<|And.intro @Qv5<|And.intro @Qv1<|And.intro @Qw4<|And.intro @Qwp<|And.intro @Q5a<|And.intro @Q0c<|And.intro @Qr9<|And.intro @Qso<| @Q2m
abbrev Qdc:=And.intro @List.getD_cons_zero.{0}<|And.intro @List.getD_cons_succ.{0}<|And.intro @List.set_cons_zero.{0}<|And.intro @List.set_cons_succ.{0}<|And.intro @List.map_cons.{0,0}<|And.intro @List.map_nil.{0,0}<|And.intro @Option.map_some.{0,0}<|And.intro @Option.map_none.{0,0}<|And.intro @Option.bind_some.{0,0}<|And.intro @Option.bind_none.{0,0}<|And.intro @List.length_nil.{0}<|And.intro @List.length_cons.{0}<|And.intro @List.nil_append.{0}<|And.intro @List.cons_append.{0}<|And.intro @List.append_nil.{0}<|And.intro @List.replicate_succ.{0}<|And.intro @List.replicate_zero.{0}<|And.intro @List.getElem?_cons_zero.{0}<|And.intro @List.getElem?_cons_succ.{0}<| @List.getElem?_toArray.{0}
end Go.AM
end
section
namespace Go.AM
section
variable {P : Program} {pol : Pol} {C : Call} {L : Kc -> Kv} {fn fr : Nat} {t : List V} {H : Heap} {d : Option Nat} {k : List It} {Q : Ex -> List V -> Heap -> Prop} {a : Array Oper} {r : List Oper} {T : List FP} {o : Oper}
theorem W.guardX{b want:Bool}(h1:b=want->W (U P pol C L fn fr (.opsT a (o::r) T::k) .normal t H) Q)(h2:b=(!want)->W (U P pol C L fn fr (.opsT a r (.quiet::T)::k) .normal (Qs t d nov) H) Q):W (UGT P pol C L fn fr (some (.bool b)) want o d a r T k t H) Q:=by
 unfold UGT;by_cases h:b=want
 . simp only[h,if_true];exact h1 h
 . simp only[h,if_false];exact h2 (by cases b<;>cases want<;>simp_all)
theorem W.guardXT{b:Bool}(h1:b=true->W (U P pol C L fn fr (.opsT a (o::r) T::k) .normal t H) Q)(h2:b=false->W (U P pol C L fn fr (.opsT a r (.quiet::T)::k) .normal (Qs t d nov) H) Q):W (UGT P pol C L fn fr (some (.bool b)) true o d a r T k t H) Q:=W.guardX h1 h2
theorem W.guardXF{b:Bool}(h1:b=false->W (U P pol C L fn fr (.opsT a (o::r) T::k) .normal t H) Q)(h2:b=true->W (U P pol C L fn fr (.opsT a r (.quiet::T)::k) .normal (Qs t d nov) H) Q):W (UGT P pol C L fn fr (some (.bool b)) false o d a r T k t H) Q:=W.guardX h1 h2
theorem Qzk{f:FuncId}{args args' :List V}{v v' :V}{H' :Heap}(hp:pol.prim f=none)(hq:pol.pure fn f=false)(hl:pol.lift fn f=false)(hk:pol.look fn f=true)(ha:Qx (frz (Qd H) depth) args=some args')(h:Qq P pol f args' []=some (.ret v,H'))(hv:frzN (Qd H') depth v=some v'):
 callOp pol (Qq P pol) fn fr d f args H=some (.ret v',H):=by
 simp only[callOp,hp,hq,hl,hk,if_true,ha,Zpo,if_false,h,hv,Zpl]
theorem W.opsK1(h:okK (Region.before a) ((loud T.reverse).map fun x=>(x.1.kind,x.2))=true)(h2:True->W (U P pol C L fn fr k .normal t H) Q):W (U P pol C L fn fr (.opsT a [] T::k) .normal t H) Q:=
 W.opsK h (h2 trivial)
end
end Go.AM
end
section
namespace Go.AM
abbrev ai{p q:Prop}(h:p)(k:q):p/\q:=⟨h,k⟩
abbrev Qc8:=ai @decide_true<|ai @decide_false<|ai @eq_self.{1}<|ai @Bool.not_true<|ai @Bool.not_false<|ai @Q6s<|ai @List.all_cons.{0}<|ai @List.all_nil.{0}<|ai @Bool.and_self<|ai @Bool.and_true<|ai @Bool.false_eq_true<| @Zd9
abbrev Qc:=ai @ev_fa<|ai @Zba<|ai @Zcj<| @Q7s
abbrev walkH:=ai @List.modify_zero_cons.{0}<|ai @List.modify_succ_cons.{0}<|ai @List.modify_cons.{0}<|ai @Nat.lt_irrefl<|ai @Nat.not_lt_zero<| @Nat.lt_add_one
abbrev walkE:=ai @Nat.one_ne_zero<|ai @and_self<|ai @and_true<|ai @true_and<|ai @List.take_zero.{0}<|ai @List.drop_succ_cons.{0}<|ai @List.drop_zero.{0}<|ai @List.take_succ_cons.{0}<|ai @List.replicate_one.{0}<|ai @List.drop_nil.{0}<|ai @List.take_nil.{0}<|ai @Nat.le_refl<|ai @Nat.zero_add<|ai @Nat.zero_mul<|ai @Nat.one_mul<| @Nat.mul_one
abbrev Yb:=ai @Bool.or_true<|ai @Bool.true_or<|ai @Bool.or_false<|ai @Bool.false_or<|ai @Bool.and_true<|ai @Bool.true_and<|ai @Bool.and_false<|ai @Bool.false_and<|ai @Bool.not_true<|ai @Bool.not_false<| @Bool.false_eq_true
abbrev walkG:=ai @Qrg<|ai @J2<|ai @Qzy<|ai @Xx<|ai @Q60<|ai @Q5u<|ai @Q4j<|ai @Q5e<|ai @Nat.lt_irrefl<|ai @Nat.not_lt_zero<| @Nat.lt_add_one
abbrev wS:=ai Qki<|ai Qdc<|ai Qc8<|ai @Q9.eq_1<|ai @Q9.eq_2<|ai @Q9.eq_3<|ai @Q9.eq_4<|ai @Q9.eq_5<|ai @Q9.eq_6<|ai @Q9.eq_7<|ai @Q9.eq_8<|ai @Q9.eq_9<|ai @Q9.eq_10<|ai @Q9.eq_11<|ai @Q9.eq_12<|ai @Q9.eq_13<|ai @Q9.eq_14<|ai @Q9.eq_15<|ai @Q9.eq_16<|ai @Q9.eq_17<|ai @Yy.eq_1<|ai @Yy.eq_2<|ai @nov.eq_1<|ai @gd.eq_1<|ai @rho.eq_1<|ai @rho.eq_2<|ai @rho.eq_3<|ai @rho.eq_4<|ai @Qs.eq_1<|ai @Qs.eq_2<|ai @wr.eq_1<|ai @wr.eq_2<| @Zm.eq_1
abbrev wA:=ai wS Qh1
abbrev wH:=ai walkH<|ai @new.eq_1<|ai @new.eq_2<|ai @Qd.eq_1<|ai @hset.eq_1<|ai @Xf.eq_1<|ai @Xf.eq_2<|ai @J3.eq_1<| @J3.eq_2
abbrev wZ:=ai walkB<|ai walkE<|ai @zerosN.eq_1<|ai @zerosN.eq_2<|ai @B1.eq_1<|ai @B1.eq_2<|ai @Qo.eq_1<|ai @Qo.eq_2<|ai @V.pure.eq_1<|ai @V.pure.eq_2<|ai @V.pure.eq_3<|ai @V.pure.eq_4<|ai @V.pure.eq_5<|ai @V.pure.eq_6<|ai @V.pure.eq_7<|ai @V.pure.eq_8<|ai @V.pure.eq_9<|ai @V.pure.eq_10<| @V.pure.eq_11
abbrev wB:=ai wZ @splice.eq_1
abbrev wG:=ai walkG<|ai @new.eq_1<|ai @new.eq_2<|ai @Xf.eq_1<|ai @Xf.eq_2<|ai @J3.eq_1<| @J3.eq_2
end Go.AM
end
section
namespace Go.AM
section
variable {P : Program} {E : Env} {B : Nat} {F : Nat -> Nat -> Prop} {H : Heap}
end
end Go.AM
end
section
namespace Go.AM
def Qdo(L:List (Int×V))(c:List V)(b:Nat):List V:=match L[b]? with
 |some (k,v)=>c.set k.toNat v
 |none=>c
def Jo(L:List (Int×V))(seen:List Nat)(rv:List V):List V:=seen.foldl (Qdo L) rv
theorem Qzq(L:List (Int×V))(seen:List Nat)(b:Nat)(rv:List V)(k:Int)(v:V)(h:L[b]?=some (k,v)):Jo L (seen++[b]) rv=(Jo L seen rv).set k.toNat v:=by simp only[Jo,List.foldl_append,Zqw,List.foldl_nil,Qdo,h]
theorem Qbw(L:List (Int×V)):∀(seen:List Nat) (rv:List V),(Jo L seen rv).length=rv.length
 |[],rv=>rfl
 |b::seen,rv=>by
  show(Jo L seen (Qdo L rv b)).length=_;rw[Qbw L seen];unfold Qdo;split
  . rw[Zqx]
  . rfl
theorem Qb8(L:List (Int×V))(i:Nat):∀(seen:List Nat) (rv:List V),(∀b∈seen,∀k v,L[b]?=some (k,v)->k.toNat≠i)->(Jo L seen rv)[i]?=rv[i]?
 |[],rv,_=>rfl
 |b::seen,rv,h=>by
  show(Jo L seen (Qdo L rv b))[i]?=_;rw[Qb8 L i seen _ (fun c hc=>h c (Zp0 _ hc))];unfold Qdo;split
  . rename_i k v hk;rw[Zqy,if_neg (h b (by simp) k v hk)]
  . rfl
theorem Qfg(L:List (Int×V))(hd:∀(b c:Nat) (k:Int) (v w:V),L[b]?=some (k,v)->L[c]?=some (k,w)->b=c)(h0:∀(b:Nat) (k:Int) (v:V),L[b]?=some (k,v)->0<=k){b:Nat}{k:Int}{v:V}(hL:L[b]?=some (k,v)):
 ∀(seen:List Nat) (rv:List V),b∈seen->k.toNat<rv.length->(Jo L seen rv)[k.toNat]?=some v
 |[],_,h,_=>by cases h
 |c::seen,rv,h,hi=>by
  show(Jo L seen (Qdo L rv c))[k.toNat]?=_;by_cases hs:b∈seen
  . refine Qfg L hd h0 hL seen _ hs ?_;unfold Qdo;split
    . rw[Zqx];exact hi
    . exact hi
  . have hc:b=c:=by
     rcases Zpy.1 h with h|h
     . exact h
     . exact absurd h hs
    subst hc;rw[Qb8 L]
    . simp only[Qdo,hL];rw[Zqy,if_pos rfl,if_pos hi]
    . intro c hcs k' v' hk' e;have:k' =k:=by have:=h0 _ _ _ hL;have:=h0 _ _ _ hk';omega
      subst this;exact hs (hd _ _ _ _ _ hL hk' ▸hcs)
theorem Q1z(L:List (Int×V))(hd:∀(b c:Nat) (k:Int) (v w:V),L[b]?=some (k,v)->L[c]?=some (k,w)->b=c)(h0:∀(b:Nat) (k:Int) (v:V),L[b]?=some (k,v)->0<=k)(seen:List Nat)(hall:∀b,b<L.length->b∈seen)(rv:List V)(hk:∀(b:Nat) (k:Int) (v:V),L[b]?=some (k,v)->k.toNat<rv.length):
 Jo L seen rv=Jo L (List.range L.length) rv:=by
 apply Zqz;intro i;by_cases h:∃(b:Nat) (k:Int) (v:V),L[b]?=some (k,v)/\k.toNat=i
 . obtain⟨b,k,v,hL,rfl⟩:=h;have hb:b<L.length:=(Zq0.1 hL).1;rw[Qfg L hd h0 hL seen rv (hall b hb) (hk _ _ _ hL),Qfg L hd h0 hL _ rv (Zq1.2 hb) (hk _ _ _ hL)]
 . have hm:∀s:List Nat,∀b∈s,∀k v,L[b]?=some (k,v)->k.toNat≠i:=fun s b _ k v hL e=>h ⟨b,k,v,hL,e⟩;rw[Qb8 L i _ _ (hm _),Qb8 L i _ _ (hm _)]
theorem Qth(seen:List Nat):∀(es:List (V×V)) (i:Nat) (x:(V×V)×Nat),x∈Ki seen es (List.range' i es.length)->i<=x.2/\es[x.2-i]?=some x.1/\x.2∉seen
 |[],_,x,h=>by cases h
 |e::es,i,x,h=>by
  simp only[Zq2,Zq3,Ki] at h;have next:x∈Ki seen es (List.range' (i+1) es.length)->i<=x.2/\(e::es)[x.2-i]?=some x.1/\x.2∉seen:=by
   intro h;obtain⟨h1,h2,h3⟩:=Qth seen es (i+1) x h;refine⟨by omega,?_,h3⟩;have e:x.2-i=(x.2-(i+1))+1:=by omega
   rw[e];exact h2
  split at h
  . exact next h
  . rename_i hc;rcases Zpy.1 h with rfl|h
    . exact⟨Zpp _,by simp,by simpa using hc⟩
    . exact next h
theorem Qt4(seen:List Nat):∀(es:List (V×V)) (i:Nat),Ki seen es (List.range' i es.length)=[]->∀b,i<=b->b<i+es.length->b∈seen
 |[],_,_,b,h1,h2=>by simp at h2;omega
 |e::es,i,h,b,h1,h2=>by
  simp only[Zq2,Zq3,Ki] at h h2;split at h
  . rename_i hc;by_cases e:b=i
    . subst e;simpa using hc
    . exact Qt4 seen es (i+1) h b (by omega) (by omega)
  . cases h
theorem Qxd(seen:List Nat)(c:Nat):∀(es:List (V×V)) (bs:List Nat),(Ki (seen++[c]) es bs).length<=(Ki seen es bs).length
 |[],bs=>by cases bs<;>simp[Ki]
 |e::es,[]=>by simp[Ki]
 |e::es,b::bs=>by
  have:=Qxd seen c es bs;simp only[Ki];split<;>split
  . exact this
  . simp only[Zq2];omega
  . rename_i h1 h2;simp at h1 h2;exact absurd h2 h1.1
  . simp only[Zq2];omega
theorem Qj6(seen:List Nat)(x:(V×V)×Nat):∀(es:List (V×V)) (bs:List Nat),x∈Ki seen es bs->(Ki (seen++[x.2]) es bs).length<(Ki seen es bs).length
 |[],bs,h=>by cases bs<;>simp[Ki] at h
 |e::es,[],h=>by simp[Ki] at h
 |e::es,b::bs,h=>by
  have le:=Qxd seen x.2 es bs;simp only[Ki] at h⊢;by_cases hb:seen.contains b=true
  . have hb2:(seen++[x.2]).contains b=true:=by simp at hb⊢;exact .inl hb
    simp only[hb,hb2,if_true] at h⊢;exact Qj6 seen x es bs h
  . simp only[hb,Zpo,if_false] at h⊢;rcases Zpy.1 h with rfl|h
    . have:(seen++[b]).contains b=true:=by simp
      simp only[this,if_true,Zq2];simp only at le;omega
    . have:=Qj6 seen x es bs h;split<;>simp only[Zq2]<;>omega
theorem Qp2(b:Nat):∀(es:List (V×V)) (i:Nat),i<=b->Qcr b es (List.range' i es.length)=es[b-i]?
 |[],i,h=>by simp[Qcr]
 |e::es,i,h=>by
  simp only[Zq2,Zq3,Qcr];split
  . rename_i q;subst q;simp
  . have q:b-i=(b-(i+1))+1:=by omega
    rw[q,Qp2 b es (i+1) (by omega)];rfl
end Go.AM
end
