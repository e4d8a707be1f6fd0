/- This file holds in one the texts YO24; each says at its head what it proves. -/
import Derived.Test.YtmapmgfiamfocaaGreatT14
import Derived.Test.YtmapmgfiamfocaaGreatT20
set_option linter.unusedSimpArgs false
set_option linter.unusedVariables false
namespace Go.Proofs.YtmapmgfiamfocaaGreat
section
set_option maxRecDepth 100000
open Go.AM Go.Mod
attribute [local irreducible] U W Zd
def Qqz(x:Ent):V×V:=(.int .i64 x.id,.ptr x.loc.f x.loc.s 0)
theorem Qns(xs:List Ent):Kc xs=xs.map Qqz:=rfl
theorem Qp5{P:Program}{g:Get}{fr:Nat}{d:Nat}{t:TypeId}{kt e:TypeId}(hu:P.underlying t=some (.map kt e)){f s:Nat}{es:List (V×V)}{bs:List Nat}{clk:Nat}(hg:g f s=some (.map es bs clk))(hd:g fr d=none):
 rangeV P g fr (some d) t (.map f s)=some (.val (.ptr fr d 0) (some (fr,d,.iter (some (f,s)) clk [] clk))):=by
 simp only[rangeV,hu,hg,new,hd]
theorem Qpr{g:Get}{f s:Nat}{m:Nat×Nat}{since stepped:Nat}{seen:List Nat}{b:Nat}{xs:List Ent}{bs:List Nat}(h1:g f s=some (.iter (some m) since (seen++[b]) stepped))(h2:g m.1 m.2=some (.map (Kc xs) bs stepped)){x:Ent}{seen0:List Nat}(hu:bs.Nodup)(hm:(x,b)∈Yj seen0 xs bs):
 Qgg g (.ptr f s 0)=some (.tuple [.int .i64 x.id,.ptr x.loc.f x.loc.s 0]):=by
 simp only[Qgg,h1,h2,List.getLast?_append,List.getLast?_singleton,Option.some_or,if_true];rw[Qns,Qhm Qqz hu hm];rfl
def Qqo(q:Ent->Bool)(l:List (Ent×Nat)):Nat:=(l.filter fun p=>q p.1).length
theorem Qrs{q:Ent->Bool}{seen:List Nat}{p:Ent×Nat}{xs:List Ent}{bs:List Nat}(hu:bs.Nodup)(hm:p∈Yj seen xs bs):Qqo q (Yj seen xs bs)=(if q p.1 then 1 else 0)+Qqo q (Yj (seen++[p.2]) xs bs):=by
 have h:=((Qch hu hm).filter fun p=>q p.1).length_eq;unfold Qqo;rw[h,Zhy];split
 . simp only[Zgz];omega
 . omega
theorem Qu5{q:Ent->Bool}{xs:List Ent}{bs:List Nat}(h:xs.length=bs.length):Qqo q (Yj [] xs bs)=(xs.filter q).length:=by
 have e:=Qib xs bs h;unfold Qqo
 conv=>rhs;rw[<-e]
 rw[List.filter_map,Zgu];rfl
theorem Q6o(xs:List Ent)(a:Int):Qdy (Jf xs) a=(xs.filter fun x=>x.line.snap&&decide (x.line.owner=a)).length:=by unfold Qdy Jf;rw[List.filter_map,Zgu];rfl
theorem Q4s(xs:List Ent)(a:Int):Qal (Jf xs) a=(xs.filter fun x=>decide (x.line.prev=a)).length:=by unfold Qal Jf;rw[List.filter_map,Zgu];rfl
def K6(g:Ent->O)(K:Qg):List Ent->Qg:=List.foldr (fun e K=>Qs K e.loc.f e.loc.s (g e)) K
theorem B0(g:Ent->O)(K:Qg):∀l,(K6 g K l).length=K.length
 |[]=>rfl
 |e::l=>by
  show(Qs (K6 g K l) e.loc.f e.loc.s (g e)).length=_;rw[Qa,B0 g K l]
theorem Z4(g:Ent->O)(K:Qg){f s:Nat}:∀l,(∀e∈l,e.loc.f<K.length)->(∀e∈l,¬(f=e.loc.f/\s=e.loc.s))->Qd (K6 g K l) f s=Qd K f s
 |[],_,_=>rfl
 |e::l,h0,h=>by
  show Qd (Qs (K6 g K l) e.loc.f e.loc.s (g e)) f s=_;rw[Ks (by rw[B0];exact h0 e (by simp)) (h e (by simp)),Z4 g K l (fun x hx=>h0 x (Zfj _ hx)) (fun x hx=>h x (Zfj _ hx))]
theorem Qtt(g:Ent->O)(K:Qg){d:Ent}:∀l,(∀e∈l,e.loc.f<K.length)->d∈l->(∀e∈l,d.loc.f=e.loc.f/\d.loc.s=e.loc.s->e=d)->Qd (K6 g K l) d.loc.f d.loc.s=some (g d)
 |[],_,h,_=>by cases h
 |e::l,h0,h,hu=>by
  show Qd (Qs (K6 g K l) e.loc.f e.loc.s (g e)) d.loc.f d.loc.s=_;by_cases q:d.loc.f=e.loc.f/\d.loc.s=e.loc.s
  . have:=hu e (by simp) q;subst this;rw[Qm (by rw[B0];exact h0 e (by simp))]
  . rw[Ks (by rw[B0];exact h0 e (by simp)) q];rcases Zfi.1 h with rfl|h
    . exact absurd ⟨rfl,rfl⟩ q
    . exact Qtt g K l (fun x hx=>h0 x (Zfj _ hx)) h (fun x hx=>hu x (Zfj _ hx))
theorem Qru(g:Ent->O)(K:Qg){l m:List Ent}(hp:l.Perm m)(h:∀x∈l,∀y∈l,x.loc.f=y.loc.f/\x.loc.s=y.loc.s->x=y):K6 g K l=K6 g K m:=by
 unfold K6;refine hp.foldr_eq' (fun x hx y hy z=>?_) K;by_cases q:x.loc.f=y.loc.f/\x.loc.s=y.loc.s
 . have:=h x hx y hy q;subst this;rfl
 . exact Qij z _ _ q
theorem Q6u{l:List Ent}(hu:l.Pairwise fun x y=>x.id≠y.id){a b:Ent}(ha:a∈l)(hb:b∈l)(h:a.id=b.id):a=b:=by
 induction l with
 |nil=>cases ha
 |cons z l ih=>
  obtain⟨h1,h2⟩:=Zgr.1 hu;rcases Zfi.1 ha with rfl|ha'
  . rcases Zfi.1 hb with rfl|hb'
    . rfl
    . exact absurd h (h1 b hb')
  . rcases Zfi.1 hb with rfl|hb'
    . exact absurd h.symm (h1 a ha')
    . exact ih h2 ha' hb'
theorem Qa5{l:List Ent}(hu:l.Pairwise fun x y=>x.id≠y.id)(ha:l.Pairwise Qej){a b:Ent}(h1:a∈l)(h2:b∈l)(h:a.loc.f=b.loc.f/\a.loc.s=b.loc.s):a=b:=by
 by_cases q:a.id=b.id
 . exact Q6u hu h1 h2 q
 . exact absurd h (Qkz (fun _ _ h=>h.symm) ha h1 h2 q).1
theorem Q53{S:MSt}{n:Nat}(ok:J1 S n){i:Int}{L:Qe}(h:Zw S.lines i=some L):L.prev≠i:=by
 intro e;have hm:=Zh h;have h0:=ok.id0 _ hm;rcases ok.prev _ hm with h1|⟨q,hq,e1,e2⟩
 . simp only at h1 h0;omega
 . have hq2:=Qaa ok.uniq (i:=q.1) (L:=q.2) hq;simp only at e1;rw[e1,e,h] at hq2;cases hq2;have:=ok.desc _ hm e2;simp only at this;omega
def Bg:List Ent->Int->List Ent
 |[],_=>[]
 |x::l,i=>if i=x.id then l else x::Bg l i
def Ql4(l:List Ent)(a b:Int):List Ent:=l.map fun e=>if e.line.prev=a then{e with line:={e.line with prev:=b}} else e
theorem Qm7(l:List Ent)(i:Int):Jf (Bg l i)=Qa0 (Jf l) i:=by
 induction l with
 |nil=>rfl
 |cons x l ih=>
  simp only[Bg,Jf,Zfn,Qa0] at ih⊢;split
  . rfl
  . rw[Zfn,ih]
theorem Qnt(l:List Ent)(a b:Int):Jf (Ql4 l a b)=Xs (Jf l) a b:=by simp only[Jf,Ql4,Xs,Zfp];apply Zgs;intro e _;simp only[Function.comp];split<;>rfl
theorem Q4t(l:List Ent)(a b:Int):Kc (Ql4 l a b)=Kc l:=by simp only[Kc,Ql4,Zfp];apply Zgs;intro e _;simp only[Function.comp];split<;>rfl
theorem Qif(l:List Ent)(i:Int):(Bg l i).Sublist l:=by
 induction l with
 |nil=>exact .slnil
 |cons x l ih=>
  simp only[Bg];split
  . exact List.sublist_cons_self _ _
  . exact ih.cons_cons _
theorem Qew(l:List Ent)(a b i:Int):Kc (Bg (Ql4 l a b) i)=Kc (Bg l i):=by
 induction l with
 |nil=>rfl
 |cons x l ih=>
  have e:(if x.line.prev=a then{x with line:={x.line with prev:=b}} else x:Ent).id=x.id:=by split<;>rfl
  have e2:(if x.line.prev=a then{x with line:={x.line with prev:=b}} else x:Ent).loc=x.loc:=by split<;>rfl
  simp only[Ql4,Zfn,Bg,e] at ih⊢;split
  . exact Q4t l a b
  . simp only[Kc,Zfn,e,e2] at ih⊢;rw[ih]
theorem Qi1(l:List Ent)(a b i:Int):(Bg (Ql4 l a b) i).length=(Bg l i).length:=by have:=congrArg List.length (Qew l a b i);simpa only[Kc,Zgu] using this
theorem Qq5{mf ms:Nat}{bs:List Nat}{clk:Nat}{i:Int}:∀{l:List Ent} {x:Ent},Qft l.length bs clk->Kg l i=some x->
 ∃bs',Qft (Bg l i).length bs' clk/\∀g:Get,g mf ms=some (.map (Kc l) bs clk)->X9 Tryz.prog g 43 (.map mf ms) (.int .i64 i)=some (.val (.tuple []) (some (mf,ms,.map (Kc (Bg l i)) bs' clk))):=by
 intro l x hb hx;have key:∀(l:List Ent) (j:Nat) {x:Ent},Kg l i=some x->∃k,findKey (.int .i64 i) (Kc l) j=some (some (j+k,.ptr x.loc.f x.loc.s 0))/\k<l.length/\(Kc l).eraseIdx k=Kc (Bg l i)/\(Bg l i).length+1=l.length:=by
  intro l
  induction l with
  |nil=>intro j x h;cases h
  |cons y l ih=>
   intro j x h;simp only[Kg] at h;by_cases e:i=y.id
   . subst e;rw[if_pos rfl] at h;cases h;exact⟨0,by simp[Kc,findKey,Qmx],by simp,by simp[Kc,Bg],by simp[Bg]⟩
   . rw[if_neg e] at h;obtain⟨k,h1,h2,h3,h4⟩:=ih (j+1) h;have e2:(i==y.id)=false:=by simpa using e
     refine⟨k+1,?_,by simp;omega,?_,by simp[Bg,e];omega⟩
     . simp only[Kc,Zfn,findKey,Qmx,if_true,e2] at h1⊢;rw[h1];congr 3;omega
     . simp only[Kc,Zfn,List.eraseIdx_cons_succ,Bg,e,if_false] at h3⊢;rw[h3]
 obtain⟨k,h1,h2,h3,h4⟩:=key l 0 hx;rw[Zff] at h1;refine⟨bs.eraseIdx k,Qft.erase (n:=(Bg l i).length) (by rw[h4];exact hb) (by omega),fun g h=>?_⟩;simp only[X9,Tryz.underlying43,Tryz.underlying3,Yo,if_true,h,h1,h3]
theorem Q2h:Qam 32 Y3:=by
 rintro H h S N c dv ⟨xs,kl,hh⟩ ok hN hc;refine Y2 Tryz.func32 rfl ?_;intro n K hn F;have sdv:=Ql.scalar hc.data;obtain⟨bs,clk,hm,hb⟩:=hh.lmap;have A:=F.at_ hn hh.cell;have B:=F.at_ hn hm;have lkl:=fun g hg=>Yt (g:=g) (mf:=h.mf) (ms:=h.ms) (l:=xs) (bs:=bs) (clk:=clk) hg c.a;have bad:∀(K2:Qg) (e:Int),Y3 S c=(S,Zl e)->Ch H K2 []->Y4 (Q7 e) (Y3 S c).2/\Xh H K2 h (Y3 S c).1/\Qa8 H K2:=by intro K2 e he hch;rw[he];exact⟨Zk e,⟨xs,kl,hh.ch hch,hh.kOut⟩,.of_ch0 hch⟩
 have hw:=hh.lines▸Y5 xs c.a;simp only[wA,↓Qc,simprocAttr,Tryz.ntmps32,ta,new,Qb,Qa,and_false,false_and,and_true,true_and,and_self,eq_self,Zfg,Zhc,wB,F.own,F.lt,sdv,A.get,A.ltK,B.get,B.ltK,Jn,Jr,Jo,J8,J0,Zhd,Zff,Qf,A.ne,B.ne,↓lkl];refine W.opsK (by kernel_rfl) ?_;cases hx:Kg xs c.a with
 |none=>
  rw[hx] at hw;simp only[wA,↓Qc,simprocAttr,Qf7 Tryz.underlying64];refine W.pcall (Zz 6) rfl rfl rfl ?_;rintro _ rfl;simp only[wA,↓Qc,simprocAttr,Q7,ta,new,Qb,Qa,and_false,false_and,and_true,true_and,and_self,eq_self,Zfg,Zhc,F.lt,splice,wZ];exact W.done (Z2.ret (Q1 rfl rfl (Qm (by first|exact F.lt|assumption|(simp only[Qa];first|exact F.lt|assumption))) (by rw[Jp];rfl)) (bad _ 6 (by rw[Y3,hw];rfl) (F.ch hn (by first|rfl|simp only[Qa]) (fun f' s' h=>by first|rfl|simp only[Qb,Qa,F.lt,Zfc h,false_and,if_false,AM.lk, *,-hn]))))
 |some x=>
  rw[hx] at hw;have hxm:=(Yk hx).1;obtain⟨l,bs1,clk1,hL⟩:=hh.line x hxm;have X:=F.at_ hn hL.cells;have hw2:Y3 S c=if(!x.line.snap&&decide (0<Qdy S.lines c.a))||(x.line.snap&&decide (1<Qal S.lines c.a)) then(S,Zl 230) else
   ({S with lines:=Qa0 (Xs S.lines c.a x.line.prev) c.a},Zl 0):=by
   rw[Y3,hw];simp only[Ze4]
  have hlo:∃lo:Ent->List Ob,∀y∈xs,∃b k,Xi H y.loc y.line (lo y) b k:=by
   classical
   refine⟨fun y=>if hy:y∈xs then(hh.line y hy).choose else[],fun y hy=>?_⟩;simp only[hy,dif_pos];obtain⟨b,k,hk⟩:=(hh.line y hy).choose_spec;exact⟨b,k,hk⟩
  obtain⟨lo,hlo⟩:=hlo;have k3:Qd (Qs (Qs K n 3 (.cells (Qf c dv))) n 4 (.cells [.int .i64 0,.int .i64 0,.nS,.nS,.int .i64 0,.int .u8 0,.int .i64 0,.int .i64 0,.str [],.nS])) n 3=some (.cells (Qf c dv)):=by simp only[Qb,Qa,F.lt,Nat.reduceEqDiff,and_false,and_self,if_true,if_false]
  have k4:Qd (Qs (Qs K n 3 (.cells (Qf c dv))) n 4 (.cells [.int .i64 0,.int .i64 0,.nS,.nS,.int .i64 0,.int .u8 0,.int .i64 0,.int .i64 0,.str [],.nS])) n 4=_:=Qm (by simp only[Qa];exact F.lt);have k26:Qd (Qs (Qs K n 3 (.cells (Qf c dv))) n 4 (.cells [.int .i64 0,.int .i64 0,.nS,.nS,.int .i64 0,.int .u8 0,.int .i64 0,.int .i64 0,.str [],.nS])) n 26=none:=by simp only[Qb,Qa,F.lt,Nat.reduceEqDiff,and_false,if_false];exact F.own 26
  have k79:Qd (Qs (Qs K n 3 (.cells (Qf c dv))) n 4 (.cells [.int .i64 0,.int .i64 0,.nS,.nS,.int .i64 0,.int .u8 0,.int .i64 0,.int .i64 0,.str [],.nS])) n 79=none:=by simp only[Qb,Qa,F.lt,Nat.reduceEqDiff,and_false,if_false];exact F.own 79
  have klow:∀f s,f<n->Qd (Qs (Qs K n 3 (.cells (Qf c dv))) n 4 (.cells [.int .i64 0,.int .i64 0,.nS,.nS,.int .i64 0,.int .u8 0,.int .i64 0,.int .i64 0,.str [],.nS])) f s=Qd H f s:=(fun f s h=>by simp only[Qb,Qa,F.lt,Zfc h,false_and,if_false];exact F.low f s h);have klt:n<(Qs (Qs K n 3 (.cells (Qf c dv))) n 4 (.cells [.int .i64 0,.int .i64 0,.nS,.nS,.int .i64 0,.int .u8 0,.int .i64 0,.int .i64 0,.str [],.nS])).length:=(by simp only[Qa];exact F.lt);simp only[Qf] at k3 k4 k26 k79 klow klt;generalize Qs (Qs K n 3 _) n 4 _=K1 at*;have Yg:∀y∈xs,Qd K1 y.loc.f y.loc.s=some (.cells (Zd y.loc y.line.snap y.line.owner y.line.prev (lo y)))/\y.loc.f<n:=fun y hy=>by obtain⟨b,k,hk⟩:=hlo y hy;have Y:=F.at_ hn hk.cells;exact⟨(klow _ _ Y.lt).trans hk.cells,Y.lt⟩
  have m1:Qd K1 h.mf h.ms=some (.map (Kc xs) bs clk):=(klow _ _ B.lt).trans hm;have c1:Qd K1 h.f h.s=_:=(klow _ _ A.lt).trans hh.cell;have er:=Qp5 (P:=Tryz.prog) (d:=26) Tryz.underlying43 m1 k26;simp only[wA,↓Qc,simprocAttr,Qdl Tryz.underlying64,ta,new,Qb,Qa,and_false,false_and,and_true,true_and,and_self,eq_self,Zfg,Zhc,wZ,klt,c1,Zff,↓er];refine W.ul ?_;have Hlen:xs.length=bs.length:=hb.len.symm;refine W.range (d:=some 27) (k:=_) rfl rfl (.exit 0,((Qjl (.ptr h.f h.s 0) (.ptr n 3 0) (.ptr n 4 0) (.ptr x.loc.f x.loc.s 0) (.int .i64 (Qdy S.lines c.a)) (.int .i64 (Qal S.lines c.a)) (.ptr n 26 0)).set 27 (.tuple [.bool false])).set 28 (.bool false),Qs K1 n 26 .dead)
   (fun(a:List Nat×Nat×Nat) t H1=>Bq [0,3,4,5,6,7,26] t 0=Qjl (.ptr h.f h.s 0) (.ptr n 3 0) (.ptr n 4 0) (.ptr x.loc.f x.loc.s 0) (.int .i64 a.2.1) (.int .i64 a.2.2) (.ptr n 26 0)/\H1=Qs K1 n 26 (.iter (some (h.mf,h.ms)) clk a.1 clk)/\
     a.2.1+Qqo (fun y=>y.line.snap&&decide (y.line.owner=c.a)) (Yj a.1 xs bs)=Qdy S.lines c.a/\a.2.2+Qqo (fun y=>decide (y.line.prev=c.a)) (Yj a.1 xs bs)=Qal S.lines c.a)
   (fun a=>(Yj a.1 xs bs).length) ?_ ([],0,0) ⟨rfl,rfl,by rw[Qu5 Hlen,hh.lines,Q6o,Zff],by rw[Qu5 Hlen,hh.lines,Q4s,Zff]⟩ ?_
  . rintro⟨seen,o,nx⟩ t H1 ⟨ht,rfl,ho,hnx⟩;simp only at ht ho hnx;have m2:Qd (Qs K1 n 26 (.iter (some (h.mf,h.ms)) clk seen clk)) h.mf h.ms=some (.map (Kc xs) bs clk):=by rw[Q8 klt (by have:=B.lt;omega)];exact m1
    obtain⟨cs,hcs,hall⟩:=Qly (g:=Qd (Qs K1 n 26 (.iter (some (h.mf,h.ms)) clk seen clk))) (Qm klt) m2 hb.lt (Ze8 clk);refine⟨_,_,cs,Bo (kt:=[0,3,4,5,6,7,26]) rfl,?_,fun d hd=>?_⟩
    . rw[ht];exact hcs
    . rw[ht];rw[Qns,Qe0 Qqz] at hall;rcases hall d hd with⟨hnil,rfl⟩|⟨e,he,rfl⟩
      . have hnil2:Yj seen xs bs=[]:=List.map_eq_nil_iff.1 hnil;rw[hnil2] at ho hnx;simp only[Qqo,List.filter_nil,Zg2,Zhd] at ho hnx;subst ho hnx;simp only[Qjl];simp only[wA,↓Qc,simprocAttr,Qcm];exact W.done rfl
      . obtain⟨⟨y,b⟩,hyb,rfl⟩:=Zfm.1 he;have hym:y∈xs:=(Qbt hyb).1;have e1:=Qrs (q:=fun y=>y.line.snap&&decide (y.line.owner=c.a)) hb.uniq hyb;have e2:=Qrs (q:=fun y=>decide (y.line.prev=c.a)) hb.uniq hyb;have e3:=(Qch hb.uniq hyb).length_eq;simp only[Zgz] at e1 e2 e3;have hle:Qdy S.lines c.a<=1000:=by
         have:=ok.cnt;unfold Qdy;have:=Zhz (fun p:Int×Qe=>p.2.snap&&decide (p.2.owner=c.a)) S.lines;omega
        have hle2:Qal S.lines c.a<=1000:=by have:=ok.cnt;unfold Qal;have:=Zhz (fun p:Int×Qe=>decide (p.2.prev=c.a)) S.lines;omega
        have gy:Qd (Qs K1 n 26 (.iter (some (h.mf,h.ms)) clk (seen++[b]) clk)) y.loc.f y.loc.s=_:=(Q8 klt (by have:=(Yg y hym).2;omega)).trans (Yg y hym).1;have g3:Qd (Qs K1 n 26 (.iter (some (h.mf,h.ms)) clk (seen++[b]) clk)) n 3=_:=(Jq klt (by decide)).trans k3;have m3:Qd (Qs K1 n 26 (.iter (some (h.mf,h.ms)) clk (seen++[b]) clk)) h.mf h.ms=some (.map (Kc xs) bs clk):=by rw[Q8 klt (by have:=B.lt;omega)];exact m1
        have en:=Qpr (Qm (o:= .iter (some (h.mf,h.ms)) clk (seen++[b]) clk) klt) m3 hb.uniq hyb;have wo:(IntKind.i64).wrap ((o:Int)+1)=((o+1:Nat):Int):=by rw[wrap_i64]<;>omega
        have wn:(IntKind.i64).wrap ((nx:Int)+1)=((nx+1:Nat):Int):=by rw[wrap_i64]<;>omega
        have em:∀(o' nx' :Nat) (t:List V),Bq [0,3,4,5,6,7,26] t 0=Qjl (.ptr h.f h.s 0) (.ptr n 3 0) (.ptr n 4 0) (.ptr x.loc.f x.loc.s 0) (.int .i64 o') (.int .i64 nx') (.ptr n 26 0)->o' =o+(if(y.line.snap&&decide (y.line.owner=c.a))=true then 1 else 0)->nx' =nx+(if decide (y.line.prev=c.a)=true then 1 else 0)->
         ∃a' :List Nat×Nat×Nat,(Bq [0,3,4,5,6,7,26] t 0=Qjl (.ptr h.f h.s 0) (.ptr n 3 0) (.ptr n 4 0) (.ptr x.loc.f x.loc.s 0) (.int .i64 a'.2.1) (.int .i64 a'.2.2) (.ptr n 26 0)/\Qs K1 n 26 (.iter (some (h.mf,h.ms)) clk (seen++[b]) clk)=Qs K1 n 26 (.iter (some (h.mf,h.ms)) clk a'.1 clk)/\
          a'.2.1+Qqo (fun y=>y.line.snap&&decide (y.line.owner=c.a)) (Yj a'.1 xs bs)=Qdy S.lines c.a/\a'.2.2+Qqo (fun y=>decide (y.line.prev=c.a)) (Yj a'.1 xs bs)=Qal S.lines c.a)/\(Yj a'.1 xs bs).length<(Yj seen xs bs).length:=by
         rintro o' nx' t h1 rfl rfl;refine⟨(seen++[b],_,_),⟨h1,rfl,?_,?_⟩,?_⟩
         . simp only;omega
         . simp only;omega
         . simp only;omega
        simp only[Qqz,Qjl];simp only[wA,↓Qc,simprocAttr,Qcm,↓en,ta,Qf,gy,g3,Jn,Jr,Jo,Zff];refine W.guardT (fun q1=>?_) (fun q1=>?_)
        . simp only[wA,↓Qc,simprocAttr,q1,ta,Qf,gy,g3,Jn,Jr,Jo,Zff];refine W.opsK (by kernel_rfl) ?_;simp only[wA,↓Qc,simprocAttr];refine W.ite (fun q2=>?_) (fun q2=>?_)
          . have q2' :y.line.owner=c.a:=by simpa using q2
            simp only[wA,↓Qc,simprocAttr,ta,Qf,gy,g3,Jn,Jr,Jo,Zff,wo];refine W.opsK (by kernel_rfl) ?_;simp only[wA,↓Qc,simprocAttr];refine W.ite (fun q3=>?_) (fun q3=>?_)
            . have q3' :y.line.prev=c.a:=by simpa using q3
              simp only[wA,↓Qc,simprocAttr,wo,wn];exact W.done (em (o+1) (nx+1) _ rfl (by simp[q1,q2']) (by simp[q3']))
            . have q3' :¬y.line.prev=c.a:=by simpa using q3
              simp only[wA,↓Qc,simprocAttr,wo,wn];exact W.done (em (o+1) nx _ rfl (by simp[q1,q2']) (by simp[q3']))
          . have q2' :¬y.line.owner=c.a:=by simpa using q2
            simp only[wA,↓Qc,simprocAttr,ta,Qf,gy,g3,Jn,Jr,Jo,Zff,wo];refine W.opsK (by kernel_rfl) ?_;simp only[wA,↓Qc,simprocAttr];refine W.ite (fun q3=>?_) (fun q3=>?_)
            . have q3' :y.line.prev=c.a:=by simpa using q3
              simp only[wA,↓Qc,simprocAttr,wo,wn];exact W.done (em (o) (nx+1) _ rfl (by simp[q1,q2']) (by simp[q3']))
            . have q3' :¬y.line.prev=c.a:=by simpa using q3
              simp only[wA,↓Qc,simprocAttr,wo,wn];exact W.done (em (o) nx _ rfl (by simp[q1,q2']) (by simp[q3']))
        . simp only[wA,↓Qc,simprocAttr,q1,ta,Qf,gy,g3,Jn,Jr,Jo,Zff];refine W.opsK (by kernel_rfl) ?_;simp only[wA,↓Qc,simprocAttr,ta,Qf,gy,g3,Jn,Jr,Jo,Zff,wo];refine W.opsK (by kernel_rfl) ?_;simp only[wA,↓Qc,simprocAttr];refine W.ite (fun q3=>?_) (fun q3=>?_)
          . have q3' :y.line.prev=c.a:=by simpa using q3
            simp only[wA,↓Qc,simprocAttr,wo,wn];exact W.done (em (o) (nx+1) _ rfl (by simp[q1]) (by simp[q3']))
          . have q3' :¬y.line.prev=c.a:=by simpa using q3
            simp only[wA,↓Qc,simprocAttr,wo,wn];exact W.done (em (o) nx _ rfl (by simp[q1]) (by simp[q3']))
  . have f3:Qd (Qs K1 n 26 .dead) n 3=_:=(Jq klt (by decide)).trans k3;have f4:Qd (Qs K1 n 26 .dead) n 4=_:=(Jq klt (by decide)).trans k4;have f79:Qd (Qs K1 n 26 .dead) n 79=none:=(Jq klt (by decide)).trans k79;have flow:∀f s,f<n->Qd (Qs K1 n 26 .dead) f s=Qd H f s:=fun f s h=>(Q8 klt (by omega)).trans (klow f s h);have flt:n<(Qs K1 n 26 .dead).length:=by simp only[Qa];exact klt
    generalize Qs K1 n 26 .dead=K2 at*;have fm:Qd K2 h.mf h.ms=some (.map (Kc xs) bs clk):=(flow _ _ B.lt).trans hm;have fc:Qd K2 h.f h.s=_:=(flow _ _ A.lt).trans hh.cell;have fx:Qd K2 x.loc.f x.loc.s=_:=(flow _ _ X.lt).trans hL.cells;have chf:∀v o,Ch H (Yb n v (Qs K2 n 4 o)) []:=fun v o=>Ch.fin hn flow flt (Ch.refl K2);have busy:((!x.line.snap&&decide (0<Qdy S.lines c.a))||(x.line.snap&&decide (1<Qal S.lines c.a)))=true->∀v o,Y4 (Q7 230) (Y3 S c).2/\Xh H (Yb n v (Qs K2 n 4 o)) h (Y3 S c).1/\Qa8 H (Yb n v (Qs K2 n 4 o)):=fun hq v o=>bad _ 230 (by rw[hw2,if_pos hq]) (chf v o);clear m1 c1 er k3 k4 k26 k79;have i1:(decide ((Qdy S.lines c.a:Int)>0))=decide (0<Qdy S.lines c.a):=by
     by_cases q:0<Qdy S.lines c.a
     . rw[Zig q];exact Zig (by omega)
     . rw[Zih q];exact Zih (by omega)
    have i2:(decide ((Qal S.lines c.a:Int)>1))=decide (1<Qal S.lines c.a):=by
     by_cases q:1<Qal S.lines c.a
     . rw[Zig q];exact Zig (by omega)
     . rw[Zih q];exact Zih (by omega)
    simp only[Qjl,Zha,List.set_cons_zero];have hu:=hh.uniq ok;have hxp:x.line.prev≠c.a:=Q53 ok (i:=c.a) (L:=x.line) (by rw[hw];rfl);have Yh:∀y∈xs,Qd H y.loc.f y.loc.s=some (.cells (Zd y.loc y.line.snap y.line.owner y.line.prev (lo y))):=fun y hy=>by obtain⟨b,k,hk⟩:=hlo y hy;exact hk.cells
    obtain⟨gw,hgw⟩:∃gw:Ent->O,gw=fun y=> .cells (Zd y.loc y.line.snap y.line.owner x.line.prev (lo y)):=⟨_,rfl⟩;cases hs:x.line.snap with
    |false=>
     rw[hs] at busy hw2;cases hq:decide (0<Qdy S.lines c.a) with
     |true=>
      simp only[wA,↓Qc,simprocAttr,ta,fx,hs,Zff,Jn,i1,i2,hq];refine W.pcall (Zz 230) rfl rfl rfl ?_;rintro _ rfl;simp only[wA,↓Qc,simprocAttr,Q7,ta,new,Qb,Qa,and_false,false_and,and_true,true_and,and_self,eq_self,Zfg,Zhc,flt,f4,splice,wZ];exact W.done (Z2.ret (Q1 rfl rfl (Qm (by first|exact F.lt|assumption|(simp only[Qa];first|exact F.lt|assumption))) (by rw[Jp];rfl)) (busy (by simp[hq]) _ _))
     |false=>
      simp only[wA,↓Qc,simprocAttr,ta,fx,hs,Zff,Jn,i1,i2,hq];have er2:=Qp5 (P:=Tryz.prog) (d:=79) Tryz.underlying43 fm f79;simp only[wA,↓Qc,simprocAttr,ta,new,Qb,Qa,and_false,false_and,and_true,true_and,and_self,eq_self,Zfg,Zhc,wZ,fc,Zff,↓er2];refine W.ul ?_;refine W.range (d:=some 80) (k:=_) rfl rfl (.exit 2,((Qcv (.ptr h.f h.s 0) (.ptr n 3 0) (.ptr n 4 0) (.ptr x.loc.f x.loc.s 0) (.ptr n 79 0)).set 80 (.tuple [.bool false])).set 81 (.bool false),Qs (K6 gw K2 (xs.filter fun y=>decide (y.line.prev=c.a))) n 79 .dead)
       (fun(a:List Nat×List Ent) t H1=>Bq [0,3,4,5,79] t 0=Qcv (.ptr h.f h.s 0) (.ptr n 3 0) (.ptr n 4 0) (.ptr x.loc.f x.loc.s 0) (.ptr n 79 0)/\H1=Qs (K6 gw K2 a.2) n 79 (.iter (some (h.mf,h.ms)) clk a.1 clk)/\
         (a.2++((Yj a.1 xs bs).map (·.1)).filter fun y=>decide (y.line.prev=c.a)).Perm (xs.filter fun y=>decide (y.line.prev=c.a)))
       (fun a=>(Yj a.1 xs bs).length) ?_ ([],[]) ⟨rfl,rfl,by rw[Qib xs bs Hlen];exact .refl _⟩ ?_
      . rintro⟨seen,done⟩ t H1 ⟨ht,rfl,hperm⟩;simp only at ht hperm;have hd1:∀d∈done,d∈xs/\d.line.prev=c.a:=fun d hd=>by
         have:=hperm.mem_iff.1 (Zg1 _ hd);rw[Zgn] at this;exact⟨this.1,by simpa using this.2⟩
        have dlt:∀d∈done,d.loc.f<K2.length:=fun d hd=>by have:=(Yg d (hd1 d hd).1).2;omega
        have ult:n<(K6 gw K2 done).length:=by rw[B0];exact flt
        have dn:∀(s:Nat) (d:Ent),d∈done->¬(n=d.loc.f/\s=d.loc.s):=fun s d hd e=>by have:=(Yg d (hd1 d hd).1).2;omega
        have m2:∀o,Qd (Qs (K6 gw K2 done) n 79 o) h.mf h.ms=some (.map (Kc xs) bs clk):=fun o=>by rw[Q8 ult (by have:=B.lt;omega),Z4 gw K2 done dlt (fun d hd=>hh.d3 (hd1 d hd).1)];exact fm
        obtain⟨cs,hcs,hall⟩:=Qly (g:=Qd (Qs (K6 gw K2 done) n 79 (.iter (some (h.mf,h.ms)) clk seen clk))) (Qm ult) (m2 _) hb.lt (Ze8 clk);refine⟨_,_,cs,Bo (kt:=[0,3,4,5,79]) rfl,?_,fun d hd=>?_⟩
        . rw[ht];exact hcs
        . rw[ht];rw[Qns,Qe0 Qqz] at hall;rcases hall d hd with⟨hnil,rfl⟩|⟨e,he,rfl⟩
          . have hnil2:Yj seen xs bs=[]:=List.map_eq_nil_iff.1 hnil;rw[hnil2] at hperm;simp only[Zfo,List.filter_nil,Zf2] at hperm;rw[<-Qru gw K2 hperm fun a ha b hb=>Qa5 hu hh.apart (hd1 a ha).1 (hd1 b hb).1];simp only[Qcv];simp only[wA,↓Qc,simprocAttr,Qcm];exact W.done rfl
          . obtain⟨⟨y,b⟩,hyb,rfl⟩:=Zfm.1 he;have hym:y∈xs:=(Qbt hyb).1;have hp2:=Qch hb.uniq hyb;have e3:=hp2.length_eq;simp only[Zgz] at e3;have hnd:∀d∈done,¬(y.loc.f=d.loc.f/\y.loc.s=d.loc.s):=by
             intro d hd hq;have e:=Qa5 hu hh.apart hym (hd1 d hd).1 hq;subst e;have hnod:(xs.filter fun y=>decide (y.line.prev=c.a)).Pairwise fun x y=>x.id≠y.id:=hu.sublist (List.filter_sublist);have h2:=(hperm.pairwise_iff (fun h=>h.symm)).2 hnod;rw[Zg3] at h2;have hyl:y∈((Yj seen xs bs).map (·.1)).filter fun y=>decide (y.line.prev=c.a):=Zgn.2 ⟨Zfm.2 ⟨_,hyb,rfl⟩,by simpa using (hd1 y hd).2⟩;exact h2.2.2 y hd y hyl rfl
            have hxd:∀d∈done,¬(x.loc.f=d.loc.f/\x.loc.s=d.loc.s):=by intro d hd hq;have e:=Qa5 hu hh.apart hxm (hd1 d hd).1 hq;subst e;exact hxp (hd1 x hd).2
            have gy:Qd (Qs (K6 gw K2 done) n 79 (.iter (some (h.mf,h.ms)) clk (seen++[b]) clk)) y.loc.f y.loc.s=_:=(Q8 ult (by have:=(Yg y hym).2;omega)).trans ((Z4 gw K2 done dlt hnd).trans ((flow _ _ (Yg y hym).2).trans (Yh y hym)));have gx:Qd (Qs (K6 gw K2 done) n 79 (.iter (some (h.mf,h.ms)) clk (seen++[b]) clk)) x.loc.f x.loc.s=_:=(Q8 ult (by have:=X.lt;omega)).trans ((Z4 gw K2 done dlt hxd).trans fx);have g3:Qd (Qs (K6 gw K2 done) n 79 (.iter (some (h.mf,h.ms)) clk (seen++[b]) clk)) n 3=_:=(Jq ult (by decide)).trans ((Z4 gw K2 done dlt (dn 3)).trans f3);have en:=Qpr (Qm (o:= .iter (some (h.mf,h.ms)) clk (seen++[b]) clk) ult) (m2 _) hb.uniq hyb;have yl1:y.loc.f<(Qs (K6 gw K2 done) n 79 (.iter (some (h.mf,h.ms)) clk (seen++[b]) clk)).length:=by rw[Qa,B0];have:=(Yg y hym).2;omega
            simp only[Qqz,Qcv];simp only[wA,↓Qc,simprocAttr,Qcm,↓en,ta,Qf,gy,g3,Jn,Jr,Jo,Zff];refine W.opsK (by kernel_rfl) ?_;simp only[wA,↓Qc,simprocAttr];refine W.ite (fun q3=>?_) (fun q3=>?_)
            . have q3' :y.line.prev=c.a:=by simpa using q3
              simp only[wA,↓Qc,simprocAttr,ta,wZ,gx,gy,Jo,Zff,Qnr (a:=y.loc) (sn:=y.line.snap) (ow:=y.line.owner) (pr:=y.line.prev) (l:=lo y) (f:=y.loc.f) (s:=y.loc.s) (n:=x.line.prev)];refine W.done ⟨(seen++[b],y::done),⟨rfl,?_,?_⟩,by simp only;omega⟩
              . rw[Qij _ _ _ (fun e=>by have:=(Yg y hym).2;omega)];simp only;rw[show K6 gw K2 (y::done)=Qs (K6 gw K2 done) y.loc.f y.loc.s (gw y) from rfl];simp only[hgw]
              . simp only;refine List.Perm.trans ?_ hperm;have h3:=((hp2.map (·.1)).filter fun y=>decide (y.line.prev=c.a));rw[Zfn,Zhy,if_pos (by simpa using q3')] at h3;refine List.Perm.trans ?_ (List.Perm.append_left done h3.symm);exact(List.perm_middle).symm
            . have q3' :¬y.line.prev=c.a:=by simpa using q3
              simp only[wA,↓Qc,simprocAttr];refine W.done ⟨(seen++[b],done),⟨rfl,rfl,?_⟩,by simp only;omega⟩;simp only;refine List.Perm.trans ?_ hperm;have h3:=((hp2.map (·.1)).filter fun y=>decide (y.line.prev=c.a));rw[Zfn,Zhy,if_neg (by simpa using q3')] at h3;exact List.Perm.append_left done h3.symm
      . simp only[Qcv,Zha,List.set_cons_zero];have hfl:∀d∈(xs.filter fun y=>decide (y.line.prev=c.a)),d∈xs/\d.line.prev=c.a:=fun d hd=>by
         rw[Zgn] at hd;exact⟨hd.1,by simpa using hd.2⟩
        have dlt:∀d∈(xs.filter fun y=>decide (y.line.prev=c.a)),d.loc.f<K2.length:=fun d hd=>by have:=(Yg d (hfl d hd).1).2;omega
        generalize hFL:(xs.filter fun y=>decide (y.line.prev=c.a))=FL at*;have ult:n<(K6 gw K2 FL).length:=by rw[B0];exact flt
        have dn:∀(s:Nat) (d:Ent),d∈FL->¬(n=d.loc.f/\s=d.loc.s):=fun s d hd e=>by have:=(Yg d (hfl d hd).1).2;omega
        have g3:Qd (Qs (K6 gw K2 FL) n 79 .dead) n 3=_:=(Jq ult (by decide)).trans ((Z4 gw K2 FL dlt (dn 3)).trans f3);have g4:Qd (Qs (K6 gw K2 FL) n 79 .dead) n 4=_:=(Jq ult (by decide)).trans ((Z4 gw K2 FL dlt (dn 4)).trans f4);have glow:∀f s,f<n->Qd (Qs (K6 gw K2 FL) n 79 .dead) f s=Qd (K6 gw K2 FL) f s:=fun f s h=>Q8 ult (by omega);have glt:n<(Qs (K6 gw K2 FL) n 79 .dead).length:=by rw[Qa];exact ult
        have ulen:(Qs (K6 gw K2 FL) n 79 .dead).length=K2.length:=by rw[Qa,B0]
        generalize Qs (K6 gw K2 FL) n 79 .dead=K3 at*;have gm:Qd K3 h.mf h.ms=some (.map (Kc xs) bs clk):=by rw[glow _ _ B.lt,Z4 gw K2 FL dlt (fun d hd=>hh.d3 (hfl d hd).1)];exact fm
        have gc:Qd K3 h.f h.s=some (.cells [.int .i64 S.last,.map h.mf h.ms]):=by rw[glow _ _ A.lt,Z4 gw K2 FL dlt (fun d hd=>hh.d1 (hfl d hd).1)];exact fc
        obtain⟨bs',hb',hdel⟩:=Qq5 (mf:=h.mf) (ms:=h.ms) hb hx;have ml:h.mf<K3.length:=by have:=B.lt;omega
        have mn:¬n=h.mf:=by have:=B.lt;omega
        simp only[wA,↓Qc,simprocAttr,ta,new,Qb,Qa,and_false,false_and,and_true,true_and,and_self,eq_self,Zfg,Zhc,wZ,gc,g3,Qf,Zff,Qhx,↓hdel _ gm];refine W.opsK (by kernel_rfl) ?_;simp only[wA,↓Qc,simprocAttr,ta,new,Qb,Qa,and_false,false_and,and_true,true_and,and_self,eq_self,Zfg,Zhc,wB,glt,g4,ml,mn];refine W.done (Z2.ret (Q1 rfl rfl (Qm (by first|exact F.lt|assumption|(simp only[Qa];first|exact F.lt|assumption))) (by rw[Jp];rfl)) ?_);rw[hw2];rw[if_neg (by simp only[hq];simp)];have last:∀f s,f<n->¬(f=h.mf/\s=h.ms)->∀v o,Qd (Yb n v (Qs (Qs K3 h.mf h.ms (.map (Kc (Bg xs c.a)) bs' clk)) n 4 o)) f s=Qd (K6 gw K2 FL) f s:=fun f s h1 h2 v o=>by rw[Xm h1,Q8 (by rw[Qa];exact glt) (by omega),Ks ml h2,glow f s h1]
        refine⟨Zk 0,⟨Bg (Ql4 xs c.a x.line.prev) c.a,kl,?_,hh.kOut⟩,?_⟩
        rotate_left
        . refine⟨Ze9 (by omega) (Qbc (n:=n) (by simp only[Qa];omega)),fun f s o g1 g2=>?_⟩;have hf:=Q9 g1;have hn16:∀y∈xs,(lo y).length=16:=fun y hy=>by
           obtain⟨b,k,hk⟩:=hlo y hy;rw[hk.obs.len];exact(ok.ok (y.id,y.line) (by rw[hh.lines];exact Zfm.2 ⟨y,hy,rfl⟩)).n16
          rw[last f s (by omega) (Ky g1 g2 hm rfl),Z4 gw K2 FL dlt (fun d hd=>Ky g1 g2 (Yh d (hfl d hd).1) (Qen (hn16 d (hfl d hd).1))),flow f s (by omega)];exact g1
        have memx:∀y∈Bg (Ql4 xs c.a x.line.prev) c.a,∃z∈xs,y.loc=z.loc/\y.line.key=z.line.key/\y=(if z.line.prev=c.a then{z with line:={z.line with prev:=x.line.prev}} else z):=by intro y hy;obtain⟨z,hz,rfl⟩:=Zfm.1 ((Qif _ _).mem hy);refine⟨z,hz,?_,?_,rfl⟩<;>split<;>rfl
        have hFm:∀z∈xs,z.line.prev=c.a->z∈FL:=fun z hz hq=>by rw[<-hFL,Zgn];exact⟨hz,by simpa using hq⟩
        refine⟨?_,⟨bs',clk,?_,?_⟩,?_,fun y hy=>?_,fun y hy=>?_,fun i q hq=>?_,hh.klen,?_,hh.kapart⟩
        . rw[last _ _ A.lt (Ya hh.cell hm),Z4 gw K2 FL dlt (fun d hd=>hh.d1 (hfl d hd).1)];exact fc
        . rw[Xm B.lt,Q8 (by rw[Qa];exact glt) B.ne,Qm ml,Qew]
        . rw[Qi1];exact hb'
        . rw[Qm7,Qnt,<-hh.lines]
        . obtain⟨z,hz,e1,e2,e3⟩:=memx y hy;obtain⟨bz,kz,hLz⟩:=hlo z hz;have zf:=(Yg z hz).2;have znf:z.loc.nf<n:=by have:=Q9 hLz.names;omega
          have znm:∀v o,Qd (Yb n v (Qs (Qs K3 h.mf h.ms (.map (Kc (Bg xs c.a)) bs' clk)) n 4 o)) z.loc.nf z.loc.ns=some (.map (Xt z.line.names) bz kz):=fun v o=>(last _ _ znf (fun e=>hh.d4 hz ⟨e.1.symm,e.2.symm⟩) v o).trans ((Z4 gw K2 FL dlt (fun d hd e=>(hh.line d (hfl d hd).1).apartNC (hh.line z hz) ⟨e.1.symm,e.2.symm⟩)).trans ((flow _ _ znf).trans hLz.names));by_cases hq:z.line.prev=c.a
          . rw[if_pos hq] at e3;subst e3;refine⟨lo z,bz,kz,hLz.obs,?_,znm _ _,hLz.born⟩;rw[last _ _ zf (fun e=>hh.d3 hz ⟨e.1.symm,e.2.symm⟩),Qtt gw K2 FL dlt (hFm z hz hq) (fun e he q=>Qa5 hu hh.apart (hfl e he).1 hz ⟨q.1.symm,q.2.symm⟩),hgw]
          . rw[if_neg hq] at e3;subst e3;refine⟨lo y,bz,kz,hLz.obs,?_,znm _ _,hLz.born⟩;rw[last _ _ zf (fun e=>hh.d3 hz ⟨e.1.symm,e.2.symm⟩),Z4 gw K2 FL dlt (fun d hd e=>hq (by rw[Qa5 hu hh.apart hz (hfl d hd).1 e];exact(hfl d hd).2)),flow _ _ zf];exact hLz.cells
        . obtain⟨z,hz,e1,e2,e3⟩:=memx y hy;rw[e1,e2];exact hh.key z hz
        . obtain⟨k,h1,h2⟩:=hh.keys i q hq;refine⟨k,h1,?_⟩;have qn:q.1<n:=by have:=Q9 h2;omega
          rw[last _ _ qn (Ya h2 hm),Z4 gw K2 FL dlt (fun d hd=>(hh.d6 (hfl d hd).1 hq).1),flow _ _ qn];exact h2
        . refine List.Pairwise.sublist (Qif _ _) ?_;rw[Ql4,Zgt];refine hh.apart.imp fun{a b} h=>?_;unfold Qej at h⊢;split<;>split<;>exact h
    |true=>
     rw[hs] at busy hw2;cases hq:decide (1<Qal S.lines c.a) with
     |true=>
      simp only[wA,↓Qc,simprocAttr,ta,fx,hs,Zff,Jn,i1,i2,hq];refine W.pcall (Zz 230) rfl rfl rfl ?_;rintro _ rfl;simp only[wA,↓Qc,simprocAttr,Q7,ta,new,Qb,Qa,and_false,false_and,and_true,true_and,and_self,eq_self,Zfg,Zhc,flt,f4,splice,wZ];exact W.done (Z2.ret (Q1 rfl rfl (Qm (by first|exact F.lt|assumption|(simp only[Qa];first|exact F.lt|assumption))) (by rw[Jp];rfl)) (busy (by simp[hq]) _ _))
     |false=>
      simp only[wA,↓Qc,simprocAttr,ta,fx,hs,Zff,Jn,i1,i2,hq];have er2:=Qp5 (P:=Tryz.prog) (d:=79) Tryz.underlying43 fm f79;simp only[wA,↓Qc,simprocAttr,ta,new,Qb,Qa,and_false,false_and,and_true,true_and,and_self,eq_self,Zfg,Zhc,wZ,fc,Zff,↓er2];refine W.ul ?_;refine W.range (d:=some 80) (k:=_) rfl rfl (.exit 2,((Qcv (.ptr h.f h.s 0) (.ptr n 3 0) (.ptr n 4 0) (.ptr x.loc.f x.loc.s 0) (.ptr n 79 0)).set 80 (.tuple [.bool false])).set 81 (.bool false),Qs (K6 gw K2 (xs.filter fun y=>decide (y.line.prev=c.a))) n 79 .dead)
       (fun(a:List Nat×List Ent) t H1=>Bq [0,3,4,5,79] t 0=Qcv (.ptr h.f h.s 0) (.ptr n 3 0) (.ptr n 4 0) (.ptr x.loc.f x.loc.s 0) (.ptr n 79 0)/\H1=Qs (K6 gw K2 a.2) n 79 (.iter (some (h.mf,h.ms)) clk a.1 clk)/\
         (a.2++((Yj a.1 xs bs).map (·.1)).filter fun y=>decide (y.line.prev=c.a)).Perm (xs.filter fun y=>decide (y.line.prev=c.a)))
       (fun a=>(Yj a.1 xs bs).length) ?_ ([],[]) ⟨rfl,rfl,by rw[Qib xs bs Hlen];exact .refl _⟩ ?_
      . rintro⟨seen,done⟩ t H1 ⟨ht,rfl,hperm⟩;simp only at ht hperm;have hd1:∀d∈done,d∈xs/\d.line.prev=c.a:=fun d hd=>by
         have:=hperm.mem_iff.1 (Zg1 _ hd);rw[Zgn] at this;exact⟨this.1,by simpa using this.2⟩
        have dlt:∀d∈done,d.loc.f<K2.length:=fun d hd=>by have:=(Yg d (hd1 d hd).1).2;omega
        have ult:n<(K6 gw K2 done).length:=by rw[B0];exact flt
        have dn:∀(s:Nat) (d:Ent),d∈done->¬(n=d.loc.f/\s=d.loc.s):=fun s d hd e=>by have:=(Yg d (hd1 d hd).1).2;omega
        have m2:∀o,Qd (Qs (K6 gw K2 done) n 79 o) h.mf h.ms=some (.map (Kc xs) bs clk):=fun o=>by rw[Q8 ult (by have:=B.lt;omega),Z4 gw K2 done dlt (fun d hd=>hh.d3 (hd1 d hd).1)];exact fm
        obtain⟨cs,hcs,hall⟩:=Qly (g:=Qd (Qs (K6 gw K2 done) n 79 (.iter (some (h.mf,h.ms)) clk seen clk))) (Qm ult) (m2 _) hb.lt (Ze8 clk);refine⟨_,_,cs,Bo (kt:=[0,3,4,5,79]) rfl,?_,fun d hd=>?_⟩
        . rw[ht];exact hcs
        . rw[ht];rw[Qns,Qe0 Qqz] at hall;rcases hall d hd with⟨hnil,rfl⟩|⟨e,he,rfl⟩
          . have hnil2:Yj seen xs bs=[]:=List.map_eq_nil_iff.1 hnil;rw[hnil2] at hperm;simp only[Zfo,List.filter_nil,Zf2] at hperm;rw[<-Qru gw K2 hperm fun a ha b hb=>Qa5 hu hh.apart (hd1 a ha).1 (hd1 b hb).1];simp only[Qcv];simp only[wA,↓Qc,simprocAttr,Qcm];exact W.done rfl
          . obtain⟨⟨y,b⟩,hyb,rfl⟩:=Zfm.1 he;have hym:y∈xs:=(Qbt hyb).1;have hp2:=Qch hb.uniq hyb;have e3:=hp2.length_eq;simp only[Zgz] at e3;have hnd:∀d∈done,¬(y.loc.f=d.loc.f/\y.loc.s=d.loc.s):=by
             intro d hd hq;have e:=Qa5 hu hh.apart hym (hd1 d hd).1 hq;subst e;have hnod:(xs.filter fun y=>decide (y.line.prev=c.a)).Pairwise fun x y=>x.id≠y.id:=hu.sublist (List.filter_sublist);have h2:=(hperm.pairwise_iff (fun h=>h.symm)).2 hnod;rw[Zg3] at h2;have hyl:y∈((Yj seen xs bs).map (·.1)).filter fun y=>decide (y.line.prev=c.a):=Zgn.2 ⟨Zfm.2 ⟨_,hyb,rfl⟩,by simpa using (hd1 y hd).2⟩;exact h2.2.2 y hd y hyl rfl
            have hxd:∀d∈done,¬(x.loc.f=d.loc.f/\x.loc.s=d.loc.s):=by intro d hd hq;have e:=Qa5 hu hh.apart hxm (hd1 d hd).1 hq;subst e;exact hxp (hd1 x hd).2
            have gy:Qd (Qs (K6 gw K2 done) n 79 (.iter (some (h.mf,h.ms)) clk (seen++[b]) clk)) y.loc.f y.loc.s=_:=(Q8 ult (by have:=(Yg y hym).2;omega)).trans ((Z4 gw K2 done dlt hnd).trans ((flow _ _ (Yg y hym).2).trans (Yh y hym)));have gx:Qd (Qs (K6 gw K2 done) n 79 (.iter (some (h.mf,h.ms)) clk (seen++[b]) clk)) x.loc.f x.loc.s=_:=(Q8 ult (by have:=X.lt;omega)).trans ((Z4 gw K2 done dlt hxd).trans fx);have g3:Qd (Qs (K6 gw K2 done) n 79 (.iter (some (h.mf,h.ms)) clk (seen++[b]) clk)) n 3=_:=(Jq ult (by decide)).trans ((Z4 gw K2 done dlt (dn 3)).trans f3);have en:=Qpr (Qm (o:= .iter (some (h.mf,h.ms)) clk (seen++[b]) clk) ult) (m2 _) hb.uniq hyb;have yl1:y.loc.f<(Qs (K6 gw K2 done) n 79 (.iter (some (h.mf,h.ms)) clk (seen++[b]) clk)).length:=by rw[Qa,B0];have:=(Yg y hym).2;omega
            simp only[Qqz,Qcv];simp only[wA,↓Qc,simprocAttr,Qcm,↓en,ta,Qf,gy,g3,Jn,Jr,Jo,Zff];refine W.opsK (by kernel_rfl) ?_;simp only[wA,↓Qc,simprocAttr];refine W.ite (fun q3=>?_) (fun q3=>?_)
            . have q3' :y.line.prev=c.a:=by simpa using q3
              simp only[wA,↓Qc,simprocAttr,ta,wZ,gx,gy,Jo,Zff,Qnr (a:=y.loc) (sn:=y.line.snap) (ow:=y.line.owner) (pr:=y.line.prev) (l:=lo y) (f:=y.loc.f) (s:=y.loc.s) (n:=x.line.prev)];refine W.done ⟨(seen++[b],y::done),⟨rfl,?_,?_⟩,by simp only;omega⟩
              . rw[Qij _ _ _ (fun e=>by have:=(Yg y hym).2;omega)];simp only;rw[show K6 gw K2 (y::done)=Qs (K6 gw K2 done) y.loc.f y.loc.s (gw y) from rfl];simp only[hgw]
              . simp only;refine List.Perm.trans ?_ hperm;have h3:=((hp2.map (·.1)).filter fun y=>decide (y.line.prev=c.a));rw[Zfn,Zhy,if_pos (by simpa using q3')] at h3;refine List.Perm.trans ?_ (List.Perm.append_left done h3.symm);exact(List.perm_middle).symm
            . have q3' :¬y.line.prev=c.a:=by simpa using q3
              simp only[wA,↓Qc,simprocAttr];refine W.done ⟨(seen++[b],done),⟨rfl,rfl,?_⟩,by simp only;omega⟩;simp only;refine List.Perm.trans ?_ hperm;have h3:=((hp2.map (·.1)).filter fun y=>decide (y.line.prev=c.a));rw[Zfn,Zhy,if_neg (by simpa using q3')] at h3;exact List.Perm.append_left done h3.symm
      . simp only[Qcv,Zha,List.set_cons_zero];have hfl:∀d∈(xs.filter fun y=>decide (y.line.prev=c.a)),d∈xs/\d.line.prev=c.a:=fun d hd=>by
         rw[Zgn] at hd;exact⟨hd.1,by simpa using hd.2⟩
        have dlt:∀d∈(xs.filter fun y=>decide (y.line.prev=c.a)),d.loc.f<K2.length:=fun d hd=>by have:=(Yg d (hfl d hd).1).2;omega
        generalize hFL:(xs.filter fun y=>decide (y.line.prev=c.a))=FL at*;have ult:n<(K6 gw K2 FL).length:=by rw[B0];exact flt
        have dn:∀(s:Nat) (d:Ent),d∈FL->¬(n=d.loc.f/\s=d.loc.s):=fun s d hd e=>by have:=(Yg d (hfl d hd).1).2;omega
        have g3:Qd (Qs (K6 gw K2 FL) n 79 .dead) n 3=_:=(Jq ult (by decide)).trans ((Z4 gw K2 FL dlt (dn 3)).trans f3);have g4:Qd (Qs (K6 gw K2 FL) n 79 .dead) n 4=_:=(Jq ult (by decide)).trans ((Z4 gw K2 FL dlt (dn 4)).trans f4);have glow:∀f s,f<n->Qd (Qs (K6 gw K2 FL) n 79 .dead) f s=Qd (K6 gw K2 FL) f s:=fun f s h=>Q8 ult (by omega);have glt:n<(Qs (K6 gw K2 FL) n 79 .dead).length:=by rw[Qa];exact ult
        have ulen:(Qs (K6 gw K2 FL) n 79 .dead).length=K2.length:=by rw[Qa,B0]
        generalize Qs (K6 gw K2 FL) n 79 .dead=K3 at*;have gm:Qd K3 h.mf h.ms=some (.map (Kc xs) bs clk):=by rw[glow _ _ B.lt,Z4 gw K2 FL dlt (fun d hd=>hh.d3 (hfl d hd).1)];exact fm
        have gc:Qd K3 h.f h.s=some (.cells [.int .i64 S.last,.map h.mf h.ms]):=by rw[glow _ _ A.lt,Z4 gw K2 FL dlt (fun d hd=>hh.d1 (hfl d hd).1)];exact fc
        obtain⟨bs',hb',hdel⟩:=Qq5 (mf:=h.mf) (ms:=h.ms) hb hx;have ml:h.mf<K3.length:=by have:=B.lt;omega
        have mn:¬n=h.mf:=by have:=B.lt;omega
        simp only[wA,↓Qc,simprocAttr,ta,new,Qb,Qa,and_false,false_and,and_true,true_and,and_self,eq_self,Zfg,Zhc,wZ,gc,g3,Qf,Zff,Qhx,↓hdel _ gm];refine W.opsK (by kernel_rfl) ?_;simp only[wA,↓Qc,simprocAttr,ta,new,Qb,Qa,and_false,false_and,and_true,true_and,and_self,eq_self,Zfg,Zhc,wB,glt,g4,ml,mn];refine W.done (Z2.ret (Q1 rfl rfl (Qm (by first|exact F.lt|assumption|(simp only[Qa];first|exact F.lt|assumption))) (by rw[Jp];rfl)) ?_);rw[hw2];rw[if_neg (by simp only[hq];simp)];have last:∀f s,f<n->¬(f=h.mf/\s=h.ms)->∀v o,Qd (Yb n v (Qs (Qs K3 h.mf h.ms (.map (Kc (Bg xs c.a)) bs' clk)) n 4 o)) f s=Qd (K6 gw K2 FL) f s:=fun f s h1 h2 v o=>by rw[Xm h1,Q8 (by rw[Qa];exact glt) (by omega),Ks ml h2,glow f s h1]
        refine⟨Zk 0,⟨Bg (Ql4 xs c.a x.line.prev) c.a,kl,?_,hh.kOut⟩,?_⟩
        rotate_left
        . refine⟨Ze9 (by omega) (Qbc (n:=n) (by simp only[Qa];omega)),fun f s o g1 g2=>?_⟩;have hf:=Q9 g1;have hn16:∀y∈xs,(lo y).length=16:=fun y hy=>by
           obtain⟨b,k,hk⟩:=hlo y hy;rw[hk.obs.len];exact(ok.ok (y.id,y.line) (by rw[hh.lines];exact Zfm.2 ⟨y,hy,rfl⟩)).n16
          rw[last f s (by omega) (Ky g1 g2 hm rfl),Z4 gw K2 FL dlt (fun d hd=>Ky g1 g2 (Yh d (hfl d hd).1) (Qen (hn16 d (hfl d hd).1))),flow f s (by omega)];exact g1
        have memx:∀y∈Bg (Ql4 xs c.a x.line.prev) c.a,∃z∈xs,y.loc=z.loc/\y.line.key=z.line.key/\y=(if z.line.prev=c.a then{z with line:={z.line with prev:=x.line.prev}} else z):=by intro y hy;obtain⟨z,hz,rfl⟩:=Zfm.1 ((Qif _ _).mem hy);refine⟨z,hz,?_,?_,rfl⟩<;>split<;>rfl
        have hFm:∀z∈xs,z.line.prev=c.a->z∈FL:=fun z hz hq=>by rw[<-hFL,Zgn];exact⟨hz,by simpa using hq⟩
        refine⟨?_,⟨bs',clk,?_,?_⟩,?_,fun y hy=>?_,fun y hy=>?_,fun i q hq=>?_,hh.klen,?_,hh.kapart⟩
        . rw[last _ _ A.lt (Ya hh.cell hm),Z4 gw K2 FL dlt (fun d hd=>hh.d1 (hfl d hd).1)];exact fc
        . rw[Xm B.lt,Q8 (by rw[Qa];exact glt) B.ne,Qm ml,Qew]
        . rw[Qi1];exact hb'
        . rw[Qm7,Qnt,<-hh.lines]
        . obtain⟨z,hz,e1,e2,e3⟩:=memx y hy;obtain⟨bz,kz,hLz⟩:=hlo z hz;have zf:=(Yg z hz).2;have znf:z.loc.nf<n:=by have:=Q9 hLz.names;omega
          have znm:∀v o,Qd (Yb n v (Qs (Qs K3 h.mf h.ms (.map (Kc (Bg xs c.a)) bs' clk)) n 4 o)) z.loc.nf z.loc.ns=some (.map (Xt z.line.names) bz kz):=fun v o=>(last _ _ znf (fun e=>hh.d4 hz ⟨e.1.symm,e.2.symm⟩) v o).trans ((Z4 gw K2 FL dlt (fun d hd e=>(hh.line d (hfl d hd).1).apartNC (hh.line z hz) ⟨e.1.symm,e.2.symm⟩)).trans ((flow _ _ znf).trans hLz.names));by_cases hq:z.line.prev=c.a
          . rw[if_pos hq] at e3;subst e3;refine⟨lo z,bz,kz,hLz.obs,?_,znm _ _,hLz.born⟩;rw[last _ _ zf (fun e=>hh.d3 hz ⟨e.1.symm,e.2.symm⟩),Qtt gw K2 FL dlt (hFm z hz hq) (fun e he q=>Qa5 hu hh.apart (hfl e he).1 hz ⟨q.1.symm,q.2.symm⟩),hgw]
          . rw[if_neg hq] at e3;subst e3;refine⟨lo y,bz,kz,hLz.obs,?_,znm _ _,hLz.born⟩;rw[last _ _ zf (fun e=>hh.d3 hz ⟨e.1.symm,e.2.symm⟩),Z4 gw K2 FL dlt (fun d hd e=>hq (by rw[Qa5 hu hh.apart hz (hfl d hd).1 e];exact(hfl d hd).2)),flow _ _ zf];exact hLz.cells
        . obtain⟨z,hz,e1,e2,e3⟩:=memx y hy;rw[e1,e2];exact hh.key z hz
        . obtain⟨k,h1,h2⟩:=hh.keys i q hq;refine⟨k,h1,?_⟩;have qn:q.1<n:=by have:=Q9 h2;omega
          rw[last _ _ qn (Ya h2 hm),Z4 gw K2 FL dlt (fun d hd=>(hh.d6 (hfl d hd).1 hq).1),flow _ _ qn];exact h2
        . refine List.Pairwise.sublist (Qif _ _) ?_;rw[Ql4,Zgt];refine hh.apart.imp fun{a b} h=>?_;unfold Qej at h⊢;split<;>split<;>exact h
end
end Go.Proofs.YtmapmgfiamfocaaGreat
