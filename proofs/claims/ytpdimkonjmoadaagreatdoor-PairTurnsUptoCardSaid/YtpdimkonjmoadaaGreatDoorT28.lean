/- This file holds in one the texts F2, D01, DT, DU, DW, DP, DQ, DR, DN, DN2, DX, DYta, DYtb; each says at its head what it proves. -/
import Derived.Test.YtpdimkonjmoadaaGreatDoorT12
import Derived.Test.YtpdimkonjmoadaaGreatDoorT15
import Derived.Test.YtpdimkonjmoadaaGreatDoorT16
import Derived.Test.YtpdimkonjmoadaaGreatDoorT18
import Derived.Test.YtpdimkonjmoadaaGreatDoorT19
import Derived.Test.YtpdimkonjmoadaaGreatDoorT20
import Derived.Test.YtpdimkonjmoadaaGreatDoorT21
import Derived.Test.YtpdimkonjmoadaaGreatDoorT22
import Derived.Test.YtpdimkonjmoadaaGreatDoorT23
set_option linter.unusedSimpArgs false
set_option linter.unusedVariables false
noncomputable section
namespace Go.Proofs.YtpdimkonjmoadaaGreatDoor
section
set_option maxRecDepth 100000
open Go.AM
theorem Zx{n:Nat}{t:TypeId}{k:IntKind}{xs:List V}(hu:(Tp).underlying t=some (.int k))(h:Zz Tp n t xs):∃m,xs=[.int k m]:=by
 cases n with
 |zero=>exact h.elim
 |succ n=>
  unfold Zz at h;rw[hu] at h;obtain⟨m,h1,_⟩:=h;exact⟨m,h1⟩
theorem Q3q{n:Nat}{t:TypeId}{k:IntKind}{xs:List V}(hu:(Tp).underlying t=some (.int k))(h:Zz Tp n t xs):∃m,xs=[.int k m]/\k.min<=m/\m<=k.max:=by
 cases n with
 |zero=>exact h.elim
 |succ n=>
  unfold Zz at h;rw[hu] at h;obtain⟨m,h1,h2⟩:=h;simp only[Lit.wf,Zqf,decide_eq_true_eq] at h2;exact⟨m,h1,h2⟩
theorem Qcu{n:Nat}{t:TypeId}{xs:List V}(hu:(Tp).underlying t=some (.int .u32))(h:Zz Tp n t xs):∃m,xs=[.int .u32 m]/\0<=m/\m<4294967296:=by obtain⟨m,h1,h2,h3⟩:=Q3q hu h;have e1:(IntKind.u32).min=0:=rfl;have e2:(IntKind.u32).max=4294967295:=rfl;exact⟨m,h1,by omega,by omega⟩
theorem Q5s{n:Nat}{t:TypeId}{xs:List V}(hu:(Tp).underlying t=some (.int .i64))(h:Zz Tp n t xs):∃m,xs=[.int .i64 m]/\ -9223372036854775808<=m/\m<=9223372036854775807:=by obtain⟨m,h1,h2,h3⟩:=Q3q hu h;have e1:(IntKind.i64).min= -9223372036854775808:=rfl;have e2:(IntKind.i64).max=9223372036854775807:=rfl;exact⟨m,h1,by omega,by omega⟩
theorem Qb2{n:Nat}{t e:TypeId}{xs:List V}(hu:(Tp).underlying t=some (.slice e))(h:Zz Tp n t xs):
 ∃v m ys,xs=[v]/\ys.length<=Xc/\(∀y∈ys,Zz Tp m e y)/\((v= .nS/\ys=[])\/v= .iS ys.flatten ys.length false):=by
 cases n with
 |zero=>exact h.elim
 |succ n=>
  unfold Zz at h;rw[hu] at h;rcases h with h|⟨ys,h,h1,h2⟩
  . exact⟨_,n,[],h,Zr9 _,(fun _ h=>by cases h),.inl ⟨rfl,rfl⟩⟩
  . exact⟨_,n,ys,h,h1,h2,.inr rfl⟩
theorem Qnk{esz:Nat}{v:V}{ys:List (List V)}(h:(v= .nS/\ys=[])\/v= .iS ys.flatten ys.length false)(hl:ys.flatten.length=ys.length*esz):Qv esz v ys.flatten ys.length:=by
 rcases h with⟨rfl,rfl⟩|rfl
 . exact Qv.nil
 . exact Qv.mk hl
theorem Qcw{n:Nat}{xs:List V}(h:Zz Tp n 23 xs):∃v l,xs=[v]/\Qk v l/\l.length<=Xc:=by obtain⟨v,m,ys,rfl,h1,h2,h3⟩:=Qb2 Zu0 h;obtain⟨l,h4,h5⟩:=Qi0 (P:=Tp) Zu10 ys h2;refine⟨v,l,rfl,?_,by omega⟩;have:=Qnk (esz:=1) h3 (by rw[h4,Za,h5];omega);rw[h4,<-h5] at this;exact this
theorem Qt7{n:Nat}:∀ys:List (List V),(∀y∈ys,Zz Tp n 3 y)->∃l:List Int,l.length=ys.length/\ys.flatten=Qm l
 |[],_=>⟨[],rfl,rfl⟩
 |y::ys,h=>by
  obtain⟨l,h1,h2⟩:=Qt7 ys fun z hz=>h z (Zp0 _ hz);obtain⟨m,rfl⟩:=Zx Zu3 (h y (by simp));exact⟨m::l,by simp[h1],by rw[Zqv,h2];rfl⟩
theorem Q18{n:Nat}{xs:List V}(h:Zz Tp n 34 xs):∃v l,xs=[v]/\Ke v l/\l.length<=Xc:=by obtain⟨v,m,ys,rfl,h1,h2,h3⟩:=Qb2 Zu2 h;obtain⟨l,h5,h4⟩:=Qt7 ys h2;refine⟨v,l,rfl,?_,by omega⟩;have:=Qnk (esz:=1) h3 (by rw[h4,Xv,h5];omega);rw[h4,<-h5] at this;exact this
theorem Qtq{n:Nat}:∀ys:List (List V),(∀y∈ys,Zz Tp n 23 y)->∃l:List (List UInt8),l.length=ys.length/\K0 ys.flatten l/\∀k∈l,k.length<=Xc
 |[],_=>⟨[],rfl,rfl,fun _ h=>by cases h⟩
 |y::ys,h=>by
  obtain⟨l,h1,h2,h3⟩:=Qtq ys fun z hz=>h z (Zp0 _ hz);obtain⟨v,k,rfl,h4,h5⟩:=Qcw (h y (by simp));exact⟨k::l,by simp[h1],⟨v,_,rfl,h4,h2⟩,Zsr.2 ⟨h5,h3⟩⟩
theorem Qkc{n:Nat}{xs:List V}(h:Zz Tp n 52 xs):∃v l,xs=[v]/\Kf v l/\l.length<=Xc/\∀k∈l,k.length<=Xc:=by obtain⟨v,m,ys,rfl,h1,h2,h3⟩:=Qb2 Zu1 h;obtain⟨l,h5,h4,h6⟩:=Qtq ys h2;refine⟨v,l,rfl,⟨_,h4,?_⟩,by omega,h6⟩;have:=Qnk (esz:=1) h3 (by rw[h4.len,h5];omega);rw[<-h5] at this;exact this
theorem Qh7{n:Nat}{xs:List V}(h:Zz Tp n 60 xs):∃p:Ka,xs=p.cells/\p.Rng:=by
 cases n with
 |zero=>exact h.elim
 |succ n=>
  unfold Zz at h;rw[Tryz.underlying60] at h;simp only[Kh,Zp4,Zp5] at h;obtain⟨x1,r1,a1,⟨x2,r2,a2,⟨x3,r3,a3,⟨x4,r4,a4,⟨x5,r5,a5,e6,rfl⟩,rfl⟩,rfl⟩,rfl⟩,rfl⟩:=h;obtain⟨m1,rfl⟩:=Zx Zu3 a1;obtain⟨m2,rfl,u2⟩:=Qcu Zu9 a2;obtain⟨m3,rfl,u3⟩:=Qcu Zu9 a3;obtain⟨m4,rfl,u4⟩:=Qcu Zu9 a4;obtain⟨m5,rfl,u5⟩:=Qcu Zu9 a5;subst e6;exact⟨⟨m1,m2,m3,m4,m5⟩,rfl,u2,u3,u4,u5⟩
theorem Qua{n:Nat}:∀ys:List (List V),(∀y∈ys,Zz Tp n 60 y)->∃l:List Ka,l.length=ys.length/\ys.flatten=Y6 l
 |[],_=>⟨[],rfl,rfl⟩
 |y::ys,h=>by
  obtain⟨l,h1,h2⟩:=Qua ys fun z hz=>h z (Zp0 _ hz);obtain⟨m,rfl,_⟩:=Qh7 (h y (by simp));exact⟨m::l,by simp[h1],by rw[Zqv,h2];rfl⟩
theorem Qw3(l:List Ka):(Y6 l).length=l.length*5:=by
 induction l with
 |nil=>rfl
 |cons a l ih=>
  have e:Y6 (a::l)=a.cells++Y6 l:=rfl;rw[e,Zqp,ih,Zq2];have:a.cells.length=5:=rfl;omega
theorem Q2e{n:Nat}{xs:List V}(h:Zz Tp n 80 xs):∃v l,xs=[v]/\Bm v l/\l.length<=Xc:=by obtain⟨v,m,ys,rfl,h1,h2,h3⟩:=Qb2 Zu8 h;obtain⟨l,h5,h4⟩:=Qua ys h2;refine⟨v,l,rfl,?_,by omega⟩;have:=Qnk (esz:=5) h3 (by rw[h4,Qw3,h5]);rw[h4,<-h5] at this;exact this
theorem Q0m{n:Nat}{xs:List V}(h:Zz Tp n 134 xs):∃a v l,xs=[.int .i64 a,v]/\Qk v l/\l.length<=Xc/\ -9223372036854775808<=a/\a<=9223372036854775807:=by
 cases n with
 |zero=>exact h.elim
 |succ n=>
  unfold Zz at h;rw[Tryz.underlying134] at h;simp only[Kh,Zp4,Zp5] at h;obtain⟨x1,r1,a1,⟨x2,r2,a2,e3,rfl⟩,rfl⟩:=h;obtain⟨m1,rfl,u1⟩:=Q5s Zu3 a1;obtain⟨v,l,rfl,h1,h2⟩:=Qcw a2;subst e3;exact⟨m1,v,l,rfl,h1,h2,u1⟩
theorem Qrv{n:Nat}:∀ys:List (List V),(∀y∈ys,Zz Tp n 134 y)->∃l:List (Int×List UInt8),l.length=ys.length/\Qaj ys.flatten l/\∀w∈l,w.2.length<=Xc/\ -9223372036854775808<=w.1/\w.1<=9223372036854775807
 |[],_=>⟨[],rfl,rfl,fun _ h=>by cases h⟩
 |y::ys,h=>by
  obtain⟨l,h1,h2,h3⟩:=Qrv ys fun z hz=>h z (Zp0 _ hz);obtain⟨a,v,k,rfl,h4,h5⟩:=Q0m (h y (by simp));exact⟨(a,k)::l,by simp[h1],⟨v,_,rfl,h4,h2⟩,Zsr.2 ⟨h5,h3⟩⟩
theorem Qyt{n:Nat}{xs:List V}(h:Zz Tp n 53 xs):∃v l,xs=[v]/\Xh v l/\l.length<=Xc/\∀w∈l,w.2.length<=Xc/\ -9223372036854775808<=w.1/\w.1<=9223372036854775807:=by obtain⟨v,m,ys,rfl,h1,h2,h3⟩:=Qb2 Zu4 h;obtain⟨l,h5,h4,h6⟩:=Qrv ys h2;refine⟨v,l,rfl,⟨_,h4,?_⟩,by omega,h6⟩;have:=Qnk (esz:=2) h3 (by rw[h4.len,h5]);rw[<-h5] at this;exact this
theorem Q0g{n:Nat}{xs:List V}(h:Zz Tp n 82 xs):∃l dv,xs=Ja l dv/\Bm dv l.dead/\l.dead.length<=Xc/\l.root.Rng:=by
 cases n with
 |zero=>exact h.elim
 |succ n=>
  unfold Zz at h;rw[Tryz.underlying82] at h;simp only[Kh,Zp4,Zp5] at h;obtain⟨x1,r1,a1,⟨x2,r2,a2,⟨x3,r3,a3,⟨x4,r4,a4,⟨x5,r5,a5,⟨x6,r6,a6,⟨x7,r7,a7,⟨x8,r8,a8,⟨x9,r9,a9,e10,rfl⟩,rfl⟩,rfl⟩,rfl⟩,rfl⟩,rfl⟩,rfl⟩,rfl⟩,rfl⟩:=h;obtain⟨m1,rfl⟩:=Zx Zu3 a1;obtain⟨m2,rfl⟩:=Zx Zu10 a2;obtain⟨m3,rfl⟩:=Zx Zu3 a3;obtain⟨m4,rfl⟩:=Zx Zu3 a4;obtain⟨m5,rfl⟩:=Zx Zu9 a5;obtain⟨m6,rfl⟩:=Zx Zu9 a6;obtain⟨m7,rfl⟩:=Zx Zu3 a7;obtain⟨p,rfl,up⟩:=Qh7 a8;obtain⟨v,d,rfl,h1,h2⟩:=Q2e a9;subst e10;exact⟨⟨m1,m2,m3,m4,m5,m6,m7,p,d⟩,v,rfl,h1,h2,up⟩
theorem Qo8{n:Nat}:∀ys:List (List V),(∀y∈ys,Zz Tp n 82 y)->∃l:List Ji,l.length=ys.length/\LinesC ys.flatten l/\∀x∈l,x.dead.length<=Xc/\x.root.Rng
 |[],_=>⟨[],rfl,rfl,fun _ h=>by cases h⟩
 |y::ys,h=>by
  obtain⟨l,h1,h2,h3⟩:=Qo8 ys fun z hz=>h z (Zp0 _ hz);obtain⟨x,v,rfl,h4,h5⟩:=Q0g (h y (by simp));exact⟨x::l,by simp[h1],⟨v,_,rfl,h4,h2⟩,Zsr.2 ⟨h5,h3⟩⟩
theorem Qy0{n:Nat}{xs:List V}(h:Zz Tp n 61 xs):∃v l,xs=[v]/\Qil v l/\l.length<=Xc/\∀x∈l,x.dead.length<=Xc/\x.root.Rng:=by obtain⟨v,m,ys,rfl,h1,h2,h3⟩:=Qb2 Zu5 h;obtain⟨l,h5,h4,h6⟩:=Qo8 ys h2;refine⟨v,l,rfl,⟨_,h4,?_⟩,by omega,h6⟩;have:=Qnk (esz:=13) h3 (by rw[h4.len,h5]);rw[<-h5] at this;exact this
theorem Qws{n:Nat}{xs:List V}(h:Zz Tp n 84 xs):∃c dv k,xs=Qw c dv/\Qk dv k/\c.n=k.length/\k.length<=Xc/\c.laid.Rng:=by
 cases n with
 |zero=>exact h.elim
 |succ n=>
  unfold Zz at h;rw[Tryz.underlying84] at h;simp only[Kh,Zp4,Zp5] at h;obtain⟨x1,r1,a1,⟨x2,r2,a2,⟨x3,r3,a3,⟨x4,r4,a4,⟨x5,r5,a5,⟨x6,r6,a6,⟨x7,r7,a7,⟨x8,r8,a8,e9,rfl⟩,rfl⟩,rfl⟩,rfl⟩,rfl⟩,rfl⟩,rfl⟩,rfl⟩:=h;obtain⟨m1,rfl⟩:=Zx Zu3 a1;obtain⟨m2,rfl⟩:=Zx Zu3 a2;obtain⟨m3,rfl⟩:=Zx Zu3 a3;obtain⟨m4,rfl⟩:=Zx Zu10 a4;obtain⟨m5,rfl⟩:=Zx Zu3 a5;obtain⟨m6,rfl⟩:=Zx Zu3 a6;obtain⟨v,k,rfl,h1,h2⟩:=Qcw a7;obtain⟨p,rfl,up⟩:=Qh7 a8;subst e9;exact⟨⟨m1,m2,m3,m4,m5,m6,k.length,p⟩,v,k,rfl,h1,rfl,h2,up⟩
theorem Qkq{n:Nat}:∀ys:List (List V),(∀y∈ys,Zz Tp n 84 y)->∃l ds,l.length=ys.length/\Zr ys.flatten l ds/\(∀k∈ds,k.length<=Xc)/\∀c∈l,c.laid.Rng
 |[],_=>⟨[],[],rfl,rfl,(fun _ h=>by cases h),fun _ h=>by cases h⟩
 |y::ys,h=>by
  obtain⟨l,ds,h1,h2,h3,g3⟩:=Qkq ys fun z hz=>h z (Zp0 _ hz);obtain⟨c,v,k,rfl,h4,h5,h6,g6⟩:=Qws (h y (by simp));exact⟨c::l,k::ds,by simp[h1],⟨v,_,rfl,h4,h5,h2⟩,Zsr.2 ⟨h6,h3⟩,Zsr.2 ⟨g6,g3⟩⟩
theorem Qsn{n:Nat}{xs:List V}(h:Zz Tp n 62 xs):∃v cs l ds,xs=[v]/\Zr cs l ds/\Qv 12 v cs l.length/\l.length<=Xc/\(∀k∈ds,k.length<=Xc)/\∀c∈l,c.laid.Rng:=by obtain⟨v,m,ys,rfl,h1,h2,h3⟩:=Qb2 Zu7 h;obtain⟨l,ds,h5,h4,h6⟩:=Qkq ys h2;refine⟨v,_,l,ds,rfl,h4,?_,by omega,h6⟩;have:=Qnk (esz:=12) h3 (by rw[h4.toC.len,h5]);rw[<-h5] at this;exact this
theorem Q19{n:Nat}{xs:List V}(h:Zz Tp n 64 xs):∃bv wv sv mv lv kv ov cv x,xs=Qy bv wv sv mv lv kv ov cv x.p/\Yh bv wv sv mv lv kv ov cv x/\x.Fits:=by
 cases n with
 |zero=>exact h.elim
 |succ n=>
  unfold Zz at h;rw[Tryz.underlying64] at h;simp only[Kh,Zp4,Zp5] at h;obtain⟨x1,r1,a1,⟨x2,r2,a2,⟨x3,r3,a3,⟨x4,r4,a4,⟨x5,r5,a5,⟨x6,r6,a6,⟨x7,r7,a7,⟨x8,r8,a8,⟨x9,r9,a9,⟨x10,r10,a10,⟨x11,r11,a11,e12,rfl⟩,rfl⟩,rfl⟩,rfl⟩,rfl⟩,rfl⟩,rfl⟩,rfl⟩,rfl⟩,rfl⟩,rfl⟩:=h;obtain⟨gen,rfl,gn⟩:=Qcu Zu9 a2;obtain⟨root,rfl,rr⟩:=Qh7 a3;obtain⟨mv,own,rfl,o1,o2⟩:=Q18 a4;obtain⟨lv,lines,rfl,l1,l2,l3⟩:=Qy0 a5;obtain⟨kv,keys,rfl,k1,k2,k3⟩:=Qkc a6;obtain⟨ov,loaded,rfl,q1,q2,q3⟩:=Qkc a7;obtain⟨cv,cs,changes,datas,rfl,c1,c2,c3,c4,c5⟩:=Qsn a8;obtain⟨logged,rfl⟩:=Zx Zu3 a9;obtain⟨nid,rfl⟩:=Zx Zu3 a10;obtain⟨ng,rfl⟩:=Zx Zu9 a11;subst e12;cases n with
  |zero=>exact a1.elim
  |succ n=>
   unfold Zz at a1;rw[Tryz.underlying58] at a1;simp only[Kh,Zp4,Zp5] at a1;obtain⟨y1,s1,b1,⟨y2,s2,b2,⟨y3,s3,b3,⟨y4,s4,b4,e5,rfl⟩,rfl⟩,rfl⟩,rfl⟩:=a1;obtain⟨sv,space,rfl,p1,p2⟩:=Qcw b2;obtain⟨epoch,rfl⟩:=Zx Zu9 b3;obtain⟨count,rfl,cn⟩:=Qcu Zu9 b4;subst e5;cases n with
   |zero=>exact b1.elim
   |succ n=>
    unfold Zz at b1;rw[Tryz.underlying55] at b1;simp only[Kh,Zp4,Zp5] at b1;obtain⟨z1,t1,d1,⟨z2,t2,d2,e3,rfl⟩,rfl⟩:=b1;obtain⟨bv,blocks,rfl,v1,v2,v3⟩:=Qkc d1;obtain⟨wv,waits,rfl,w1,w2,w3⟩:=Qyt d2;subst e3;exact⟨bv,wv,sv,mv,lv,kv,ov,cv,⟨blocks,waits,space,⟨epoch,count,gen,root,own,lines,keys,loaded,changes,logged,nid,ng⟩,datas⟩,rfl,
     ⟨v1,w1,p1,o1,l1,k1,q1,⟨cs,c1,c2⟩⟩,⟨v2,w2,p2,o2,l2,k2,q2,c3,v3,fun w hw=>(w3 w hw).1,k3,q3,fun l hl=>(l3 l hl).1,c4,fun w hw=>(w3 w hw).2,rr,fun l hl=>(l3 l hl).2,c5,⟨cn,gn⟩⟩⟩
theorem Q6z:∀c:Code,BM.drawsC c=drawsC c:=by
 intro c
 induction c with
 |region id ops draw=>rfl
 |seq a b iha ihb=>simp only[BM.drawsC,drawsC,iha,ihb]
 |cond c a b iha ihb=>simp only[BM.drawsC,drawsC,iha,ihb]
 |rangeFunc g ps a b iha ihb=>simp only[BM.drawsC,drawsC,iha,ihb]
 |block i b ih=>simp only[BM.drawsC,drawsC,ih]
 |loop b ih=>simp only[BM.drawsC,drawsC,ih]
 |scope b ih=>simp only[BM.drawsC,drawsC,ih]
 |_=>rfl
theorem Q71:∀c:Code,BM.flatC c=flatC c:=by
 intro c
 induction c with
 |seq a b iha ihb=>simp only[BM.flatC,flatC,iha,ihb]
 |cond c a b iha ihb=>simp only[BM.flatC,flatC,iha,ihb]
 |block i b ih=>simp only[BM.flatC,flatC,ih]
 |loop b ih=>simp only[BM.flatC,flatC,ih]
 |scope b ih=>simp only[BM.flatC,flatC,ih]
 |_=>rfl
open Go.AM Go.AM.BM
attribute [local irreducible] U W
theorem Qup{v:V}(h:Q3l v=true):∃c f,v= .iS c 256 f/\J1 c:=by
 cases v with
 |iS c n f=>
  simp only[Q3l,Zqf] at h;obtain⟨h1,h2,h3⟩:=h;cases Zsg h1
  replace h2:=Zsg h2
  refine⟨c,f,rfl,h2,?_⟩;rw[<-h3];congr 1
 |_=>cases h
theorem Qjn{bv:V}{rv:List V}(h:Qkr bv=some rv):∃fl,bv= .iS rv 256 fl/\rv.length=256/\(∀i,i<256->∃f,rv[i]?=some (.iS (Qsp (rv.getD i .bad)) 256 f))/\∀i,i<256->J1 (Qsp (rv.getD i .bad)):=by
 cases bv with
 |iS xs n f=>
  simp only[Qkr] at h;split at h
  case isFalse=>cases h
  rename_i hc;cases h;simp only[Zqf,Zqt] at hc;obtain⟨⟨h1,h2⟩,h3⟩:=hc;cases Zsg h1
  replace h2:=Zsg h2
  have key:∀i,i<256->∃c g,rv[i]?=some (.iS c 256 g)/\rv.getD i .bad= .iS c 256 g/\J1 c:=fun i hi=>by
   have hl:i<rv.length:=by omega
   obtain⟨c,g,e,hr⟩:=Qup (h3 rv[i] (Zrt hl));have e1:rv[i]?=some (.iS c 256 g):=by rw[Zpk hl,e]
   exact⟨c,g,e1,by simp[List.getD,e1],hr⟩
  refine⟨f,rfl,h2,fun i hi=>?_,fun i hi=>?_⟩
  . obtain⟨c,g,e1,e2,_⟩:=key i hi;exact⟨g,by rw[e1,e2];rfl⟩
  . obtain⟨c,g,_,e2,hr⟩:=key i hi;rw[e2];exact hr
 |_=>cases h
theorem Qrd:∀(cs:List V) (j:Nat),Qeb cs=true->2*j+1<cs.length->∃a c f,cs[2*j]?=some (.int .i64 a)/\0<=a/\a<256/\cs[2*j+1]?=some (.iS c 256 f)/\J1 c
 |[],j,_,h=>by simp at h
 |[x],j,_,h=>by simp at h
 |x::v::r,j,h,hl=>by
  unfold Qeb at h;split at h
  . rename_i e;cases e
  . rename_i a v' r' e;cases e;simp only[Zqf,decide_eq_true_eq] at h;obtain⟨⟨⟨h1,h2⟩,h3⟩,h4⟩:=h;cases j with
    |zero=>
     obtain⟨c,f,rfl,hc⟩:=Qup h3;exact⟨a,c,f,rfl,h1,h2,rfl,hc⟩
    |succ j=>
     obtain⟨b,c,f,q1,q2,q3,q4,q5⟩:=Qrd r j h4 (by simp only[Zq2] at hl;omega);exact⟨b,c,f,by rw[show 2*(j+1)=2*j+1+1 by omega];simpa using q1,q2,q3,by rw[show 2*(j+1)+1=2*j+1+1+1 by omega];simpa using q4,q5⟩
  . cases h
def waA(cs:List V)(j:Nat):Int:=match cs.getD (2*j) .bad with
 | .int _ a=>a
 |_=>0
def waD(cs:List V)(j:Nat):List V:=Qsp (cs.getD (2*j+1) .bad)
theorem Ql6{wv:V}{cs:List V}{n:Nat}(h:Qjr wv=some (cs,n)):Qv 2 wv cs n/\n<=4096/\(∀j,j<n->cs[2*j]?=some (.int .i64 (waA cs j))/\∃fl,cs[2*j+1]?=some (.iS (waD cs j) 256 fl))/\(∀j,j<n->0<=waA cs j/\waA cs j<256)/\∀j,j<n->J1 (waD cs j):=by
 have key:∀cs n,Qeb cs=true->cs.length=n*2->(∀j,j<n->cs[2*j]?=some (.int .i64 (waA cs j))/\∃fl,cs[2*j+1]?=some (.iS (waD cs j) 256 fl))/\(∀j,j<n->0<=waA cs j/\waA cs j<256)/\∀j,j<n->J1 (waD cs j):=fun cs n h hl=>by
  have q:∀j,j<n->∃f,cs[2*j]?=some (.int .i64 (waA cs j))/\cs[2*j+1]?=some (.iS (waD cs j) 256 f)/\(0<=waA cs j/\waA cs j<256)/\J1 (waD cs j):=fun j hj=>by
   obtain⟨a,c,f,q1,q2,q3,q4,q5⟩:=Qrd cs j h (by omega);have e1:waA cs j=a:=by simp[waA,List.getD,q1]
   have e2:waD cs j=c:=by simp[waD,List.getD,q4,Qsp]
   rw[e1,e2];exact⟨f,q1,q4,⟨q2,q3⟩,q5⟩
  exact⟨fun j hj=>by obtain⟨f,q1,q2,_⟩:=q j hj;exact⟨q1,f,q2⟩,fun j hj=>by obtain⟨f,_,_,q,_⟩:=q j hj;exact q,fun j hj=>by obtain⟨f,_,_,_,q⟩:=q j hj;exact q⟩
 cases wv with
 |nS=>
  cases h;exact⟨Qv.nil,by omega,fun j hj=>by omega,fun j hj=>by omega,fun j hj=>by omega⟩
 |iS xs m f=>
  simp only[Qjr] at h;split at h
  case isFalse=>cases h
  rename_i hc;cases h;simp only[Zqf] at hc;obtain⟨⟨h1,h2⟩,h3⟩:=hc
  replace h1:=Zsg h1
  replace h2:=Zru h2
  exact⟨Qv.mk h1,h2,key _ _ h3 h1⟩
 |_=>cases h
theorem Qi7(x v:V):∀(l:List V) (i:Nat),l.length=2*i->Qe8 (l++[x,v])=Qe8 l++[x,BM.newRow false v]
 |[],_,_=>rfl
 |[y],i,h=>by simp at h;omega
 |y::z::l,i,h=>by
  show y::BM.newRow false z::Qe8 (l++[x,v])=_;rw[Qi7 x v l (i-1) (by simp only[Zq2] at h;omega)];rfl
theorem Qgp(cs:List V)(n:Nat)(hl:cs.length=n*2)(h:∀j,j<n->cs[2*j]?=some (.int .i64 (waA cs j))/\∃fl,cs[2*j+1]?=some (.iS (waD cs j) 256 fl)):∀i,i<=n->Qcj (waA cs) (waD cs) i=Qe8 (cs.take (2*i))
 |0,_=>rfl
 |i+1,hi=>by
  obtain⟨q1,f,q2⟩:=h i (by omega);obtain⟨l1,g1⟩:=Zq0.1 q1;obtain⟨l2,g2⟩:=Zq0.1 q2;have e:cs.take (2*(i+1))=cs.take (2*i)++[.int .i64 (waA cs i),.iS (waD cs i) 256 f]:=by rw[show 2*(i+1)=2*i+1+1 by omega,Zr6 l2,Zr6 l1,g1,g2,Zqm];rfl
  rw[e,Qi7 _ _ _ i (by rw[Zqj];omega),<-Qgp cs n hl h i (by omega),Qdz];rfl
theorem Qoz(rv cs:List V)(n:Nat)(hr:rv.length=256)(hl:cs.length=n*2)(h:∀j,j<n->cs[2*j]?=some (.int .i64 (waA cs j))/\∃fl,cs[2*j+1]?=some (.iS (waD cs j) 256 fl)):
 encD (fun i=>Qsp (rv.getD i .bad)) (waA cs) (waD cs) n=Qu5 rv cs n:=by
 have e1:((List.range 256).map fun j=>V.iS (Qsp (rv.getD j .bad)) 256 true)=rv.map (BM.newRow true):=by
  apply Zqz;intro i;by_cases hi:i<256
  . rw[Zsd,Zsd,List.getElem?_range hi,Zpk (by omega)];simp[BM.newRow,List.getD,Zpk (show i<rv.length by omega)]
  . rw[Zpn (by simp;omega),Zpn (by simp;omega)]
 have e2:=Qgp cs n hl h n (Zpp n);rw[Zr8 (by omega)] at e2;simp only[encD,Qu5,e1,e2]
theorem Q9b(ys:List V)(v:V)(h:Q26 ys=some v):Fz Tp Qf 79 ys (· =v):=by
 unfold Q26 at h;split at h
 case h_2=>cases h
 rename_i bv wv;split at h
 case h_2=>cases h
 rename_i rv cs n hb hw;cases h;obtain⟨fl,rfl,h1,h2,h3⟩:=Qjn hb;obtain⟨w1,w2,w3,w4,w5⟩:=Ql6 hw;have:=Zdb rv fl _ h1 h2 h3 wv cs n w1 w2 (waA cs) (waD cs) w3 w5;rw[Qoz rv cs n h1 w1.1 w3] at this;exact this
theorem Zbw(ys:List V)(v:V)(h:kNew ys=some v):Fz Tp Qf 183 ys (· =v):=by
 unfold kNew at h;split at h
 case h_2=>cases h
 cases h;exact new_fz
theorem Q53:CW Tp Qf 67 [.agg [.nS,.nS]] [] fun x _=>x= .ret (.int .i64 8):=by
 refine Ye Tryz.func67 rfl ?_;have l1:∀g,B0 Tp g 52 .nS=some (.int .i64 0):=fun g=>Qv.nil (esz:=1)|>.len Zu1 g;have l2:∀g,B0 Tp g 53 .nS=some (.int .i64 0):=fun g=>Qv.nil (esz:=2)|>.len Zu4 g;simp only[wX,↓Qc,simprocAttr,Tryz.ntmps67,l1,l2];refine W.ul ?_;refine W.loopS (kt:=[1,3,19,20,21]) rfl (fun _:Nat=>Qmr (.ptr 0 1 0) (.bool false) .nS (.int .i64 0) (.int .i64 0)) (fun _=>[[(1,.cells [.nS,.nS])]]) (fun _=>True) (fun i=>i) ?_ 0 trivial rfl rfl;rintro i hi;simp only[Qmr];simp only[wA,↓Qc,simprocAttr];refine W.done ?_;simp only[wX,↓Qc,simprocAttr,l1,l2];refine W.ul ?_;refine W.loop (fun(_:Nat) t H=>Jj [3,33,34,35] t 0=Qh3 (.bool false) .nS (.int .i64 0) (.int .i64 0)/\H=[[(1,.cells [.nS,.nS])]]) (fun i=>i) ?_ 0 ⟨rfl,rfl⟩ rfl;rintro i t H ⟨ht,rfl⟩;have hd:([[(1,.cells [.nS,.nS])]]:Heap).modify 0 (Jk fun s=>[7].contains s)=[[(1,.cells [.nS,.nS])]]:=rfl;refine⟨_,_,Zq (kt:=[3,33,34,35]) (ds:=[7]) rfl ?_ ?_,?_⟩
 . rw[ht];rfl
 . rw[hd];rfl
 rw[ht,hd];simp only[Qh3];simp only[wA,↓Qc,simprocAttr];refine W.done ?_;simp only[wA,↓Qc,simprocAttr];exact W.done (End.ret (v:= .int .i64 8) rfl rfl)
theorem Q5o(ys:List V)(v:V)(h:Qus ys=some v):FzN Tp Qf 67 ys v:=by
 unfold Qus at h;split at h
 case h_3=>cases h
 . cases h;obtain⟨r,H,e,rfl⟩:=Q53;exact⟨_,_,e,rfl⟩
 . rename_i bv wv _;split at h
   case h_2=>cases h
   rename_i rv cs hb hw;obtain⟨cs,n⟩:=cs;cases h;obtain⟨fl,rfl,h1,h2,h3⟩:=Qjn hb;obtain⟨w1,w2,w3,w4,w5⟩:=Ql6 hw;obtain⟨r,H,e,rfl⟩:=Q7r rv fl _ h1 h2 wv cs n w1 w2 (waA cs) (waD cs) w3 w4;exact⟨_,_,e,rfl⟩
def Qs1(a:Nat->Int)(dv:Nat->V):Nat->List V->List V
 |0,rv=>rv
 |i+1,rv=>(Qs1 a dv i rv).set (a i).toNat (dv i)
theorem Qrc(a:Nat->Int)(dv:Nat->V):∀(n:Nat) (rv:List V),Qs1 a dv (n+1) rv=Qs1 (fun j=>a (j+1)) (fun j=>dv (j+1)) n (rv.set (a 0).toNat (dv 0))
 |0,rv=>rfl
 |n+1,rv=>by
  show(Qs1 a dv (n+1) rv).set _ _=_;rw[Qrc a dv n rv];rfl
theorem Qnc(a:Nat->Int)(dv:Nat->V):∀(n:Nat) (rv:List V),(Qs1 a dv n rv).length=rv.length
 |0,_=>rfl
 |n+1,rv=>by rw[Qs1,Zqx,Qnc a dv n rv]
theorem Qz6(a:Nat->Int)(dv:Nat->V):∀(n:Nat) (rv:List V) (x:V),x∈Qs1 a dv n rv->x∈rv\/∃j,j<n/\x=dv j
 |0,_,x,h=> .inl h
 |n+1,rv,x,h=>by
  rcases List.mem_or_eq_of_mem_set h with h|rfl
  . rcases Qz6 a dv n rv x h with h|⟨j,hj,e⟩
    . exact .inl h
    . exact .inr ⟨j,by omega,e⟩
  . exact .inr ⟨n,by omega,rfl⟩
def waV(cs:List V)(j:Nat):V:=cs.getD (2*j+1) .bad
theorem Qfl:∀(n:Nat) (cs rv:List V),Qeb cs=true->cs.length=n*2->Qgb cs rv=Qs1 (waA cs) (waV cs) n rv
 |0,cs,rv,_,h=>by
  have:cs=[]:=List.length_eq_zero_iff.1 (by omega);subst this;rfl
 |n+1,[],rv,_,h=>by simp at h
 |n+1,[x],rv,_,h=>by simp at h;omega
 |n+1,x::v::r,rv,h,hl=>by
  unfold Qeb at h;split at h
  . rename_i e;cases e
  . rename_i a v' r' e;cases e;simp only[Zqf] at h;have ih:=Qfl n r (rv.set a.toNat v) h.2 (by simp only[Zq2] at hl;omega);show Qgb r (rv.set a.toNat v)=_;rw[ih,Qrc];have e1:(fun j=>waA (.int .i64 a::v::r) (j+1))=waA r:=by
     funext j;simp only[waA];rw[show 2*(j+1)=2*j+1+1 by omega,List.getD_cons_succ,List.getD_cons_succ]
    have e2:(fun j=>waV (.int .i64 a::v::r) (j+1))=waV r:=by funext j;simp only[waV];rw[show 2*(j+1)+1=2*j+1+1+1 by omega,List.getD_cons_succ,List.getD_cons_succ]
    rw[e1,e2];rfl
  . cases h
theorem Qur:∀(L:List (Int×V)) (k:Int) (v:V),(k,v)∈Qbe L k v
 |[],k,v=>by simp[Qbe]
 |(k',v')::r,k,v=>by
  simp only[Qbe];split
  . simp
  . exact Zp0 _ (Qur r k v)
theorem Quo:∀(L:List (Int×V)) (k:Int) (v:V) (x:Int×V),x.1≠k->x∈L->x∈Qbe L k v
 |(k',v')::r,k,v,x,hx,h=>by
  simp only[Qbe];rcases Zpy.1 h with rfl|h
  . rw[if_neg (fun e=>hx e.symm)];simp
  . split
    . exact Zp0 _ h
    . exact Zp0 _ (Quo r k v x hx h)
def Qh5(L:List (Int×V))(rv:List V):List V:=Jo L (List.range L.length) rv
theorem Qjp{L:List (Int×V)}(hn:(L.map Prod.fst).Nodup)(h0:∀x∈L,0<=x.1){x:Int×V}(hx:x∈L){rv:List V}(hl:x.1.toNat<rv.length):(Qh5 L rv)[x.1.toNat]?=some x.2:=by obtain⟨b,hb⟩:=Zrl.1 hx;exact Qfg L (fun b c k v w h1 h2=>Qou hn b c k v w h1 h2) (fun b k v h=>h0 _ (List.mem_of_getElem? h)) (k:=x.1) (v:=x.2) hb _ rv (Zq1.2 (Zq0.1 hb).1) hl
theorem Qn2{L:List (Int×V)}{i:Nat}(h:∀x∈L,x.1.toNat≠i)(rv:List V):(Qh5 L rv)[i]?=rv[i]?:=
 Qb8 L i _ rv fun b _ k v hb=>h _ (List.mem_of_getElem? hb)
theorem Q1s{L:List (Int×V)}(hn:(L.map Prod.fst).Nodup)(h0:∀x∈L,0<=x.1/\x.1<256)(k:Int)(v:V)(k0:0<=k)(k1:k<256)(rv:List V)(hl:rv.length=256):Qh5 (Qbe L k v) rv=(Qh5 L rv).set k.toNat v:=by
 have hn2:=Qjm L k v hn;have h2:∀x∈Qbe L k v,0<=x.1:=fun x hx=>by
  rcases Qgt _ _ _ _ hx with rfl|hx
  . exact k0
  . exact(h0 x hx).1
 have la:(Qh5 L rv).length=256:=by rw[Qh5,Qbw,hl]
 apply Zqz;intro i;by_cases hi:i=k.toNat
 . subst hi;have:=Qjp hn2 h2 (Qur L k v) (rv:=rv) (by show k.toNat<_;omega);rw[Zqy,if_pos rfl,if_pos (by omega)];exact this
 . rw[Zqy,if_neg (fun e=>hi e.symm)];by_cases hx:∃x∈L,x.1.toNat=i
   . obtain⟨x,hx,rfl⟩:=hx;have hk:x.1≠k:=fun e=>hi (by rw[e]);have b:=h0 x hx;rw[Qjp hn2 h2 (Quo L k v x hk hx) (by omega),Qjp hn (fun x hx=>(h0 x hx).1) hx (by omega)]
   . have hm:∀x∈L,x.1.toNat≠i:=fun x hx' e=>hx ⟨x,hx',e⟩;rw[Qn2 hm,Qn2];intro x hx';rcases Qgt _ _ _ _ hx' with rfl|h
     . exact fun e=>hi e.symm
     . exact hm x h
theorem Qul(a:Nat->Int)(dv:Nat->V)(rv:List V)(hl:rv.length=256)(n:Nat)(ha:∀j,j<n->0<=a j/\a j<256):∀i,i<=n->Qs1 a dv i rv=Qh5 (X8 a dv i) rv
 |0,_=>rfl
 |i+1,hi=>by
  have q:=ha i (by omega);show(Qs1 a dv i rv).set _ _=Qh5 (Qbe (X8 a dv i) (a i) (dv i)) rv;rw[Q1s (Qgr a dv i) (fun x hx=>?_) (a i) (dv i) q.1 q.2 rv hl,Qul a dv rv hl n ha i (by omega)];obtain⟨j,hj,e⟩:=Qke a dv i x hx;rw[e];exact ha j (by omega)
theorem Zdq(l:List V)(h:∀x∈l,∃c f,x= .iS c 256 f/\J1 c)(hl:l.length=256):
 (∀i,i<256->∃f,l[i]?=some (.iS (Qsp (l.getD i .bad)) 256 f))/\∀i,i<256->J1 (Qsp (l.getD i .bad)):=by
 have key:∀i,i<256->∃c g,l[i]?=some (.iS c 256 g)/\l.getD i .bad= .iS c 256 g/\J1 c:=fun i hi=>by
  have hl:i<l.length:=by omega
  obtain⟨c,g,e,hr⟩:=h l[i] (Zrt hl);have e1:l[i]?=some (.iS c 256 g):=by rw[Zpk hl,e]
  exact⟨c,g,e1,by simp[List.getD,e1],hr⟩
 refine⟨fun i hi=>?_,fun i hi=>?_⟩
 . obtain⟨c,g,e1,e2,_⟩:=key i hi;exact⟨g,by rw[e1,e2];rfl⟩
 . obtain⟨c,g,_,e2,hr⟩:=key i hi;rw[e2];exact hr
theorem Q1c{wv:V}{cs:List V}{n:Nat}(h:Qjr wv=some (cs,n)):Qeb cs=true:=by
 cases wv with
 |nS=>cases h;rfl
 |iS xs m f=>
  simp only[Qjr] at h;split at h
  case isFalse=>cases h
  rename_i hc;cases h;simp only[Zqf] at hc;exact hc.2
 |_=>cases h
theorem Q91(ys:List V)(v:V)(h:Q3e 276 ys=some v):Fz Tp Qf 143 ys (· =v):=by
 unfold Q3e at h;split at h
 case h_2=>cases h
 rename_i bv wv sv;split at h
 case isFalse=>cases h
 rename_i hfn;split at h
 case h_2=>cases h
 rename_i rv cs n hb hw;split at h
 case isFalse=>cases h
 rename_i hc;cases h;have hsr:∀p,sv.refs p=false:=fun p=>by
  unfold isFn at hfn;split at hfn
  . rfl
  . rfl
  . rfl
  . cases hfn
 have hso:sv= .func (.func 276) [] []\/n=0:=by
  rcases Bool.or_eq_true_iff.1 hc with h|h
  . left;unfold isAll at h;split at h
    . cases Zsg h;rfl
    . cases h
  . exact .inr (Zsg h)
 obtain⟨fl,rfl,h1,h2,h3⟩:=Qjn hb;obtain⟨w1,w2,w3,w4,w5⟩:=Ql6 hw;have wok:=Q1c hw;have wv3:∀j,j<n->∃c f,waV cs j= .iS c 256 f/\J1 c/\cs[2*j+1]?=some (waV cs j):=fun j hj=>by
  obtain⟨_,f,e⟩:=w3 j hj;have e2:waV cs j= .iS (waD cs j) 256 f:=by simp[waV,List.getD,e]
  exact⟨_,f,e2,w5 j hj,by rw[e2];exact e⟩
 have eA:Qgb cs rv=Jo (X8 (waA cs) (waV cs) n) (List.range (X8 (waA cs) (waV cs) n).length) rv:=by rw[Qfl n cs rv wok w1.1,Qul (waA cs) (waV cs) rv h1 n w4 n (Zpp n)];rfl
 have hl2:(Qgb cs rv).length=256:=by rw[Qfl n cs rv wok w1.1,Qnc,h1]
 have hm:∀x∈Qgb cs rv,∃c f,x= .iS c 256 f/\J1 c:=fun x hx=>by
  rw[Qfl n cs rv wok w1.1] at hx;rcases Qz6 _ _ n rv x hx with hx|⟨j,hj,rfl⟩
  . obtain⟨i,hi⟩:=Zrl.1 hx;have hi2:i<256:=by rw[<-h1];exact(Zq0.1 hi).1
    obtain⟨f,e⟩:=h2 i hi2;have:=h3 i hi2;rw[hi] at e;cases e;exact⟨_,f,rfl,this⟩
  . obtain⟨c,f,e,hc,_⟩:=wv3 j hj;exact⟨c,f,e,hc⟩
 obtain⟨r1,r2⟩:=Zdq _ hm hl2;have e3:=Qoz (Qgb cs rv) [] 0 hl2 rfl (fun j hj=>by omega);rw[<-e3];exact Zdp rv fl _ h1 h2 h3 wv cs n w1 w2 (waA cs) (waV cs) (fun j hj=>⟨(w3 j hj).1,by obtain⟨_,_,_,_,e⟩:=wv3 j hj;exact e⟩) w4 (fun j hj=>by obtain⟨c,f,e,hc,_⟩:=wv3 j hj;exact⟨c,f,e,hc⟩) (fun i=>Qsp ((Qgb cs rv).getD i .bad)) (fun i hi=>by rw[<-eA];exact r1 i hi) r2 sv hso hsr
def leB(n:Nat):Nat->List UInt8
 |0=>[]
 |i+1=>leB n i++[UInt8.ofNat (n/256^i)]
theorem Qj0(n:Nat):∀i,(leB n i).length=i
 |0=>rfl
 |i+1=>by simp[leB,Qj0 n i]
def Qvh(n:Nat):Nat->V
 |0=> .nS
 |i+1=> .gS 0 31 (Qb (leB n (i+1))) (i+1) 1
def Qwn:Nat->AM.Heap
 |0=>[[]]
 |i+1=>[[(31,.grow (i+1))]]
def Qpl(n k:Nat):V:=if !(decide (0<k)&&decide (k<=4))||decide (256^k<=n) then .tuple [.nS,.int .i64 2] else .tuple [.iS (Qb (leB n k)) k false,.int .i64 0]
theorem Qft(g:Get)(m:Nat):∀l:List UInt8,Qx (frzN g (m+1)) (Qb l)=some (Qb l)
 |[]=>rfl
 |b::l=>by
  have:=Qft g m l;simp only[Qb,Zp4] at this⊢;exact Qa rfl this
theorem put_cw(n k:Nat)(hn:n<=281474976710656)(hk:k<=4294967296):CW Tp Qf 195 [.int .i64 n,.int .i64 k] [] fun r H=>∃v0,r= .ret v0/\frzN (Qd H) depth v0=some (Qpl n k)/\frz (Qd H) depth v0=some (Qpl n k):=by
 refine Ye Tryz.func195 rfl ?_;obtain⟨m,rfl,hm⟩:=(Qzt k).op (by rfl) rfl;have hm' :∀s H,_:=fun s H=>hm 195 0 s H rfl;have c0:decide ((n:Int)<0)=false:=by simp
 have err:∀(T:List V),T.getD 4 .bad= .nS->T.getD 5 .bad= .int .i64 2->Qpl n k= .tuple [.nS,.int .i64 2]->AM.End Tp Tryz.f195 0 (fun r H=>∃v0,r= .ret v0/\frzN (Qd H) depth v0=some (Qpl n k)/\frz (Qd H) depth v0=some (Qpl n k)) .ret T [[]]:=by intro T h1 h2 h3;refine End.ret (v:= .tuple [.nS,.int .i64 2]) ?_ ⟨_,rfl,by rw[h3];rfl,by rw[h3];rfl⟩;show(match Qgk Tp T [[]] [.tmp 4,.tmp 5] with|some [v]=>some v|some vs=>some (V.tuple vs)|none=>none)=_;simp only[Qgk,Bx,h1,h2]
 cases hs:(decide (0<k)&&decide (k<=4)) with
 |false=>
  rw[hs] at hm';simp only[wX,↓Qc,simprocAttr,Tryz.ntmps195,hm'];refine W.done (err _ rfl rfl ?_);simp[Qpl,hs]
 |true=>
  rw[hs] at hm';have hk4:0<k/\k<=4:=by simpa using hs
  have m8:(IntKind.i64).wrap (8*(k:Int))=((8*k:Nat):Int):=by rw[wrap_i64]<;>omega
  have sh:∀p q,Zj Tp .shl 3 p q (.int .i64 1) (.int .i64 ((8*k:Nat):Int))=some (.int .i64 ((256^k:Nat):Int)):=fun p q=>by
   obtain⟨h1,h2⟩:=hk4;have:k=1\/k=2\/k=3\/k=4:=by omega
   rcases this with rfl|rfl|rfl|rfl<;>rfl
  have cg:decide ((n:Int)>=((256^k:Nat):Int))=decide (256^k<=n):=by simp only[ge_iff_le,Int.ofNat_le]
  simp only[wX,↓Qc,simprocAttr,Tryz.ntmps195,hm',c0,m8,sh,cg];refine W.ite (fun h=>?_) (fun h=>?_)
  . simp only[wA,↓Qc,simprocAttr];refine W.done (err _ rfl rfl ?_);simp only[decide_eq_true_eq] at h;simp[Qpl,hs,h]
  . have hv:Qpl n k= .tuple [.iS (Qb (leB n k)) k false,.int .i64 0]:=by
     simp only[Qpl,hs,h];rfl
    rw[hv];simp only[wX,↓Qc,simprocAttr];refine W.ul ?_;refine W.loopS (kt:=[0,1,6]) rfl (fun i:Nat=>Q30 (.int .i64 ((n/256^i:Nat):Int)) (.int .i64 k) (Qvh n i)) Qwn (fun i=>i<=k) (fun i=>k-i) ?_ 0 (Zr9 _) (by simp only[Nat.pow_zero,Nat.div_one];rfl) rfl;intro i hi;simp only[Q30];have len:∀g,B0 Tp g 23 (Qvh n i)=some (.int .i64 (i:Nat)):=fun g=>by
     cases i with
     |zero=>exact Q1g Zu0
     |succ i=>exact len_g Zu0 g
    by_cases h2:i<k
    . have c1:decide ((i:Int)<k)=true:=by simp only[decide_eq_true_eq];omega
      generalize hN:n/256^i=N;have hNn:N<=n:=by rw[<-hN];exact Nat.div_le_self _ _
      have cv:∀g,convertV Tp g 3 5 (.int .i64 N)=some (.val (.int .u8 ((UInt8.ofNat N).toNat:Nat)) none):=fun g=>by
       simp only[convertV,Zu3,Zu10];have:(IntKind.u8).wrap (N:Int)=((UInt8.ofNat N).toNat:Int):=by rw[IntKind.wrap_u8,UInt8.toNat_ofNat'];omega
       simp only[this]
      have q:∀x y,Zj Tp .quo 3 x y (.int .i64 N) (.int .i64 256)=some (.int .i64 ((N/256:Nat):Int)):=fun x y=>by
       have e:(N:Int).tdiv 256=((N/256:Nat):Int):=by rw[Int.tdiv_eq_ediv_of_nonneg (by omega)];omega
       have w:(IntKind.i64).wrap ((N/256:Nat):Int)=((N/256:Nat):Int):=by rw[wrap_i64]<;>omega
       show some (V.int .i64 ((IntKind.i64).wrap ((N:Int).tdiv 256)))=_;rw[e,w]
      have ap:Qp Tp (Qf.mt 195) 0 (Qd (Qwn i)) (some 31) 23 23 (Qvh n i) (.iS [.int .u8 ((UInt8.ofNat N).toNat:Nat)] 1 true)=some (.val (Qvh n (i+1)) (some (0,31,.grow (i+1)))):=by
       have mt:Qf.mt 195 31=false:=rfl;have e2:Qb (leB n (i+1))=Qb (leB n i)++[.int .u8 ((UInt8.ofNat N).toNat:Nat)]:=by rw[leB,Y5,hN];rfl
       cases i with
       |zero=>
        rw[Qvh,Qvh,Qbu Zu0 sz5 Qsb zc5 rfl Zu0 (m:=1) (cs:=[.int .u8 ((UInt8.ofNat N).toNat:Nat)]) rfl (by omega) (by decide),Bc mt rfl rfl,e2];rfl
       |succ i=>
        rw[Qvh,Qvh,Qca Zu0 sz5 Qsb zc5 rfl Zu0 (cs:=[.int .u8 ((UInt8.ofNat N).toNat:Nat)]) (m:=1) rfl (by omega) (Jg (by omega) (by omega)) rfl rfl rfl,e2]
      have hs2:List.modify (Qwn i) 0 (fun fr=>J3 fr 31 (.grow (i+1)))=Qwn (i+1):=by cases i<;>rfl
      have mt:∀s,s<2000000->Qf.mt 195 s=false:=fun s h=>Qej h rfl;generalize Qvh n i=S at*;generalize Qwn i=K at*;simp only[wX,↓Qc,simprocAttr,len,c1,cv,q,mt,Q3,ap,hs2,Zu0];refine W.done ⟨i+1,?_,rfl,h2,by omega⟩;have:n/256^(i+1)=N/256:=by rw[Nat.pow_succ,<-Nat.div_div_eq_div_mul,hN]
      rw[this];rfl
    . have hik:i=k:=by omega
      subst hik;have c1:decide ((i:Int)<i)=false:=by simp
      simp only[wX,↓Qc,simprocAttr,len,c1];refine W.done ?_;simp only[wX,↓Qc,simprocAttr];obtain⟨j,rfl⟩:∃j,i=j+1:=⟨i-1,by omega⟩;refine W.done (End.ret (v:= .tuple [.gS 0 31 (Qb (leB n (j+1))) (j+1) 1,.int .i64 0]) rfl ⟨_,rfl,?_,?_⟩)<;>rw[Z2 rfl]
      . have fl:Qx (frzN (Qd (Qwn (j+1))) 10) (Qb (leB n (j+1)))=some (Qb (leB n (j+1))):=Qft _ _ _;have f1:frzN (Qd (Qwn (j+1))) 11 (.gS 0 31 (Qb (leB n (j+1))) (j+1) 1)=some (.iS (Qb (leB n (j+1))) (j+1) false):=by
         show(if j+1=j+1 then(Qx (frzN (Qd (Qwn (j+1))) 10) (Qb (leB n (j+1)))).map _ else none)=_;rw[fl,if_pos rfl];rfl
        show(Qx (frzN _ 11) [V.gS 0 31 (Qb (leB n (j+1))) (j+1) 1,.int .i64 0]).map _=_;rw[Qa f1 (Qa (y:= .int .i64 0) rfl rfl)];rfl
      . have f1:=Qvf (l:=leB n (j+1)) (f:=0) (s:=31) (n:=j+1) (e:=1) (Qd (Qwn (j+1))) 9;show(Qx (frz _ 11) [V.gS 0 31 (Qb (leB n (j+1))) (j+1) 1,.int .i64 0]).map _=_;rw[Qa f1 (Qa (y:= .int .i64 0) rfl rfl)];rfl
theorem Qyo(n:Nat):∀i,leB n (i+1)=UInt8.ofNat n::leB (n/256) i
 |0=>by simp[leB]
 |i+1=>by
  rw[leB,Qyo n i,leB];have:n/256^(i+1)=n/256/256^i:=by rw[Nat.pow_succ',Nat.div_div_eq_div_mul]
  rw[this];rfl
theorem Qjt:∀(k n:Nat),Qjo n k=Qb (leB n k)
 |0,n=>rfl
 |k+1,n=>by
  rw[Qyo,Qjo,Qjt k (Nat.div n 256)];have e:(UInt8.ofNat n).toNat=n%256:=by rw[UInt8.toNat_ofNat']
  show V.int .u8 (Int.ofNat (n%256))::Qb (leB (n/256) k)=V.int .u8 ((UInt8.ofNat n).toNat:Int)::Qb (leB (n/256) k);rw[e];rfl
theorem put_fz(n:Nat)(hn:n<4294967296):Fz Tp Qf 195 [.int .i64 n,.int .i64 4] fun r=>r= .tuple [.iS (Qb (leB n 4)) 4 false,.int .i64 0]:=by
 obtain⟨r,H,h1,v0,rfl,_,h2⟩:=put_cw n 4 (by omega) (by decide);have e:Qpl n 4= .tuple [.iS (Qb (leB n 4)) 4 false,.int .i64 0]:=by
  have:¬256^4<=n:=by omega
  simp[Qpl,this]
 exact⟨v0,H,_,h1,h2,e⟩
theorem Q79{l:List UInt8}(hl:l.length<=1048576):wok (Qbh l):=by have ok:=Qli (l:=Qbc l (Kz l.length)) (j:=(l.length+1+Kz l.length)/8) (by rw[Qd5];omega);exact Qmk 8 ⟨ok.1,Qeq ok.2.1 (by omega),ok.2.2.1,ok.2.2.2⟩
def wi(x:W4):Nat->Nat
 |0=>x.a
 |1=>x.b
 |2=>x.c
 |_=>x.d
theorem wi_lt{x:W4}(h:wok x):∀i,wi x i<4294967296
 |0=>h.1
 |1=>h.2.1
 |2=>h.2.2.1
 |_+3=>h.2.2.2
def Qgm(x:W4):Nat->List UInt8
 |0=>[]
 |i+1=>Qgm x i++leB (wi x i) 4
theorem Qg2(x:W4):∀i,(Qgm x i).length=4*i
 |0=>rfl
 |i+1=>by simp[Qgm,Qg2 x i,Qj0];omega
def Qvx(x:W4):Nat->V
 |0=> .nS
 |i+1=> .gS 0 21 (Qb (Qgm x (i+1))) (4*(i+1)) 1
def keyH:Nat->AM.Heap
 |0=>[[]]
 |i+1=>[[(21,.grow (4*(i+1)))]]
theorem Zch{l:List UInt8}{f s n e:Nat}{g:Get}(h:g f s=some (.grow n))(m:Nat):frzN g (m+2) (.gS f s (Qb l) n e)=some (.iS (Qb l) n false):=by
 have fl:Qx (frzN g (m+1)) (Qb l)=some (Qb l):=Qft _ _ _;have e1:frzN g (m+2) (.gS f s (Qb l) n e)=(match g f s with
  |some (.grow k)=>if k=n then(Qx (frzN g (m+1)) (Qb l)).map fun cs=> .iS cs n false else none
  |_=>none):=rfl
 rw[e1,h];simp only[if_true,fl,Zpl]
theorem Q9l(v:V)(l:List UInt8)(hv:Qk v l)(hl:l.length<=1048576):CW Tp Qf 197 [v] [] fun r H=>∃v0,r= .ret v0/\frzN (Qd H) depth v0=some (.iS (Qb (Qgm (Qbh l) 4)) 16 false)/\frz (Qd H) depth v0=some (.iS (Qb (Qgm (Qbh l) 4)) 16 false):=by
 refine Ye Tryz.func197 rfl ?_;obtain⟨m,rfl,hm⟩:=(Q3m v l hv hl).op (by rfl) (Qa (hv.frz _) rfl);have hm' :∀s H,_:=fun s H=>hm 197 0 s H rfl;have ok:=Q79 hl;generalize Qbh l=z at*;simp only[wX,↓Qc,simprocAttr,Tryz.ntmps197,hm'];refine W.ul ?_;refine W.loopS (kt:=[3,9,10]) rfl (fun i:Nat=>Q25 (Qvx z i) (.agg (wc z)) (.int .i64 i)) keyH (fun i=>i<=4) (fun i=>4-i) ?_ 0 (Zr9 _) rfl rfl;intro i hi;simp only[Q25];by_cases h:i<4
 . have c1:decide ((i:Int)<4)=true:=by simp;omega
   have ix:Qf7 Tp 351 (.agg (wc z)) (.int .i64 i)=some (.int .u32 (wi z i)):=by
    have:i=0\/i=1\/i=2\/i=3:=by omega
    rcases this with rfl|rfl|rfl|rfl<;>(simp only[Qf7,Zu12,Qw2];rfl)
   have cv:∀g,convertV Tp g 56 3 (.int .u32 (wi z i))=some (.val (.int .i64 (wi z i)) none):=fun g=>by
    simp only[convertV,Zu3,Zu9];have:=wi_lt ok i;have:(IntKind.i64).wrap (wi z i:Int)=(wi z i:Int):=by rw[wrap_i64]<;>omega
    simp only[this]
   obtain⟨m2,rfl,hm2⟩:=(put_fz (wi z i) (wi_lt ok i)).op (by rfl) rfl;have hm2' :∀s H,_:=fun s H=>hm2 197 0 s H rfl;have w1:(IntKind.i64).wrap ((i:Int)+1)=((i+1:Nat):Int):=by rw[wrap_i64]<;>omega
   have mt:∀s,s<2000000->Qf.mt 197 s=false:=fun s h=>Qej h rfl;have ap:Qp Tp (Qf.mt 197) 0 (Qd (keyH i)) (some 21) 23 23 (Qvx z i) (.iS (Qb (leB (wi z i) 4)) 4 false)=some (.val (Qvx z (i+1)) (some (0,21,.grow (4*(i+1))))):=by
    have e2:Qb (Qgm z (i+1))=Qb (Qgm z i)++Qb (leB (wi z i) 4):=by rw[Qgm,Y5]
    have sc:∀g,Qj g 1 (.iS (Qb (leB (wi z i) 4)) 4 false)=some (Qb (leB (wi z i) 4),4):=fun g=>by simp[Qj,Za,Qj0]
    cases i with
    |zero=>
     rw[Qvx,Qvx,Qbu Zu0 sz5 Qsb zc5 rfl Zu0 (sc _) (by omega) (by decide),Bc (mt _ (by decide)) (Kt _) rfl,e2];rfl
    |succ i=>
     rw[Qvx,Qvx,Qca Zu0 sz5 Qsb zc5 rfl Zu0 (sc _) (by omega) (Jg (by omega) (by omega)) (Kt _) (Z5 _) rfl,e2,show 4*(i+1)+4=4*(i+1+1) by omega]
   have hs2:List.modify (keyH i) 0 (fun fr=>J3 fr 21 (.grow (4*(i+1))))=keyH (i+1):=by cases i<;>rfl
   generalize Qvx z i=S at*;generalize keyH i=K at*;simp only[wX,↓Qc,simprocAttr,c1,ix,cv,hm2',mt,Q3,ap,hs2,w1,Zu0];exact W.done ⟨i+1,rfl,rfl,h,by omega⟩
 . have hi4:i=4:=by omega
   subst hi4;have c1:decide (((4:Nat):Int)<4)=false:=rfl;simp only[wX,↓Qc,simprocAttr,c1];refine W.done ?_;simp only[wX,↓Qc,simprocAttr];refine W.done (End.ret (v:=Qvx z 4) rfl ⟨_,rfl,?_,?_⟩)
   . rw[Z2 rfl];exact Zch rfl 10
   . exact Qvf _ 10
theorem Zc7(ys:List V)(v:V)(h:kKey ys=some v):FzN Tp Qf 197 ys v:=by
 unfold kKey at h;split at h
 case h_2=>cases h
 rename_i x;split at h
 case h_2=>cases h
 rename_i c hc;cases h;obtain⟨l,rfl,hb,hl⟩:=Qim hc;obtain⟨r,H,e1,v0,rfl,e2,_⟩:=Q9l x l hb hl;have e:keyC (Qm5 (Qb l))=Qb (Qgm (Qbh l) 4):=by rw[Qw1];simp only[keyC,Qgm,Qjt,Y5,Zqm,wi];rfl
 rw[e];exact⟨_,_,e1,e2⟩
def b8(x:Int):UInt8:=UInt8.ofNat (x%256).toNat
theorem Zdu(x:Int):(IntKind.u8).wrap x=(((b8 x).toNat:Nat):Int):=by
 have e:(IntKind.u8).wrap x=x%256:=by simp only[IntKind.wrap,IntKind.bits,IntKind.signed,Zsh,Zpo,if_false];omega
 have h:(x%256).toNat<256:=by omega
 have e2:(b8 x).toNat=(x%256).toNat:=by simp only[b8,UInt8.toNat_ofNat'];omega
 rw[e,e2];omega
def onB(lf pl:Int)(v:List UInt8)(n:Int):List UInt8:=Qgm (Qbh (v++[b8 lf,b8 pl,b8 n])) 4
def Qr7(lf pl a:Int)(v:List UInt8):Nat->List UInt8
 |0=>v
 |j+1=>onB lf pl (Qr7 lf pl a v j) (a+j)
theorem Q2q(lf pl:Int)(v:List UInt8)(n:Int):(onB lf pl v n).length=16:=Qg2 _ 4
theorem key_fz(v:V)(l:List UInt8)(hv:Qk v l)(hl:l.length<=1048576):Fz Tp Qf 197 [v] fun x=>x= .iS (Qb (Qgm (Qbh l) 4)) 16 false:=by refine Fz.of_cw ((Q9l v l hv hl).mono ?_);rintro r H ⟨v0,rfl,_,h⟩;exact⟨v0,rfl,_,h,rfl⟩
theorem Qxw(lf pl a:Int)(v:List UInt8)(hv:v.length=16):∀j,(Qr7 lf pl a v j).length=16
 |0=>hv
 |j+1=>Q2q _ _ _ _
theorem on_cw(lf pl:Int)(v:List UInt8)(hv:v.length=16)(a b:Int)(ha:0<=a)(hb:b<=1000000):CW Tp Qf 375 [.agg (Qb v),.agg [.int .i64 lf,.int .i64 pl],.int .i64 a,.int .i64 b] [] fun r _=>r= .ret (.agg (Qb (Qr7 lf pl a v (b-a).toNat))):=by
 refine Ye Tryz.func375 rfl ?_;have cl:(Qb v).length=16:=by rw[Za,hv]
 have scs:(Qb v).all V.scalar=true:=Z5 v;simp only[wX,↓Qc,simprocAttr,Tryz.ntmps375,cl,scs];refine W.ul ?_;refine W.loop (fun(j:Nat) t H=>∃F:AM.Frame,Jj [3,4,5,8,9] t 0=Q3r (.int .i64 b) (.ptr 0 4 0) (.ptr 0 5 0) (.ptr 0 8 0) (.int .i64 (a+j))/\j<=(b-a).toNat/\H=[F]/\Jk (fun s=>[25,26].contains s) F=[(4,.cells (Qb (Qr7 lf pl a v j))),(5,.cells [.int .i64 lf,.int .i64 pl]),(8,.cells (zerosN [.int .u8 0] 16))]) (fun j=>(b-a).toNat-j) ?_ 0 ⟨_,by simp only[Int.natCast_zero,Int.add_zero];rfl,Zr9 _,rfl,rfl⟩;rintro j t H ⟨F,ht,hj,rfl,hF⟩;have hd:([F]:Heap).modify 0 (Jk fun s=>[25,26].contains s)=[[(4,.cells (Qb (Qr7 lf pl a v j))),(5,.cells [.int .i64 lf,.int .i64 pl]),(8,.cells (zerosN [.int .u8 0] 16))]]:=by rw[<-hF];rfl
 have ol:=Qxw lf pl a v hv j;have ocl:(Qb (Qr7 lf pl a v j)).length=16:=by rw[Za,ol]
 have hu:Qr7 lf pl a v (j+1)=onB lf pl (Qr7 lf pl a v j) (a+j):=rfl;have hz0:=hu;generalize huu:Qr7 lf pl a v j=u at*;have usc:(Qb u).all V.scalar=true:=Z5 u;have ud:(Qb u).drop 16=[]:=List.drop_of_length_le (by omega);have ut:(Qb u).take 16=Qb u:=Zr8 (by omega);refine⟨_,_,Zq (kt:=[3,4,5,8,9]) (ds:=[25,26]) rfl ?_ ?_,?_⟩
 . rw[ht];rfl
 . rw[hd];have nz:∀q,Qh q (zerosN [.int .u8 0] 16)=false:=fun q=>rfl;have nu:∀q,Qh q (Qb u)=false:=fun q=>Kr q u;simp only[Zb,Q0,O.refs,Qh,V.refs,nz,nu];rfl
 rw[ht,hd];simp only[Q3r];have zn:zerosN [V.int .u8 0] 16=List.replicate 16 (V.int .u8 0):=rfl;generalize zerosN [V.int .u8 0] 16=Z at*;have slv:Z9 Tp (Qd [[(4,.cells (Qb u)),(5,.cells [.int .i64 lf,.int .i64 pl]),(8,.cells Z)]]) 455 (.ptr 0 4 0) none none none=some (.mS 0 4 0 16 (some 16) 1):=by have on:By none=some none:=rfl;have hg:Qd [[(4,O.cells (Qb u)),(5,.cells [.int .i64 lf,.int .i64 pl]),(8,.cells Z)]] 0 4=some (.cells (Qb u)):=rfl;simp only[Z9,on,Tryz.underlying455,sz5,hg,ocl];rfl
 have cv:∀g x,convertV Tp g 3 5 (.int .i64 x)=some (.val (.int .u8 (((b8 x).toNat:Nat):Int)) none):=fun g x=>by simp only[convertV,Zu3,Zu10,Zdu]
 by_cases h:j<(b-a).toNat
 . have c1:decide (a+(j:Int)<b)=true:=Zsw (by omega);have w1:(IntKind.i64).wrap (a+(j:Int)+1)=a+((j+1:Nat):Int):=by rw[wrap_i64]<;>omega
   have mt25:Qf.mt 375 25=false:=rfl;have mt26:Qf.mt 375 26=false:=rfl;generalize hw:u++[b8 lf,b8 pl,b8 (a+j)]=w;have wl:w.length=19:=by rw[<-hw];simp[ol]
   have ap:Qp Tp (Qf.mt 375) 0 (Qd [[(4,.cells (Qb u)),(5,.cells [.int .i64 lf,.int .i64 pl]),(8,.cells Z)]]) (some 26) 23 23 (.mS 0 4 0 16 (some 16) 1) (.iS [.int .u8 (b8 lf).toNat,.int .u8 (b8 pl).toNat,.int .u8 (b8 (a+j)).toNat] 3 true)=some (.val (.gS 0 26 (Qb w) 19 1) (some (0,26,.grow 19))):=by
    have hg:Qd [[(4,O.cells (Qb u)),(5,.cells [.int .i64 lf,.int .i64 pl]),(8,.cells Z)]] 0 4=some (.cells (Qb u)):=rfl;have sc:∀g,Qj g 1 (.iS [.int .u8 (b8 lf).toNat,.int .u8 (b8 pl).toNat,.int .u8 (b8 (a+j)).toNat] 3 true)=some ([.int .u8 (b8 lf).toNat,.int .u8 (b8 pl).toNat,.int .u8 (b8 (a+j)).toNat],3):=fun g=>by simp[Qj]
    have ew:Qb w=Qb u++[.int .u8 (b8 lf).toNat,.int .u8 (b8 pl).toNat,.int .u8 (b8 (a+j)).toNat]:=by rw[<-hw,Y5];rfl
    simp only[Qp,Zu0,sz5,Qsb,zc5,Jp,sc,appendTo,hg];have hn:Qd [[(4,O.cells (Qb u)),(5,.cells [.int .i64 lf,.int .i64 pl]),(8,.cells Z)]] 0 26=none:=rfl;have r1:J6 (16+(2+1)) 1=true:=rfl;have tk:(Qb u).take 16=Qb u:=Zr8 (by omega);rw[ew];simp[r1,ocl,grown,mt26,new,hn,tk,Kt,Qo,V.pure]
   obtain⟨m,rfl,hm⟩:=(key_fz (.iS (Qb w) 19 false) w (by have:=Qk.mk w false;rwa[wl] at this) (by omega)).op' (args:=[.gS 0 26 (Qb w) 19 1]) (by rfl) (Qa (Qvf _ _) rfl);have hm1:∀s H,_:=fun s H=>hm 375 0 s H rfl;have hz:onB lf pl u (a+j)=Qgm (Qbh w) 4:=by rw[onB,hw]
   have zl:(Qgm (Qbh w) 4).length=16:=Qg2 _ 4;generalize Qgm (Qbh w) 4=z at*;have zcl:(Qb z).length=16:=by rw[Za,zl]
   have zsc:(Qb z).all V.scalar=true:=Z5 z;have zt:(Qb z).take 16=Qb z:=Zr8 (by omega);simp only[wX,↓Qc,simprocAttr,c1,ocl,w1,cv,slv,Tryz.underlying455,zcl,zsc,zt,mt25,mt26,Q3,ap,hm1,Zu0,sz5,zc5,List.drop_succ_cons,Zr1,Zrv,List.take_zero,Zqo,Zrg,Zq2,Zq4,and_self,if_true];refine W.opsK1 (by kernel_rfl) fun _=>?_;simp only[wX,↓Qc,simprocAttr,c1,w1];exact W.done ⟨j+1,⟨_,rfl,by omega,rfl,by rw[hz0,hz,ud,Zqd];rfl⟩,by omega⟩
 . have c1:decide (a+(j:Int)<b)=false:=Zsx (by omega);have hj' :j=(b-a).toNat:=by omega
   simp only[wX,↓Qc,simprocAttr,c1];refine W.done ?_;have Zl:Z.length=16:=by rw[zn];rfl
   have Zd:Z.drop 16=[]:=List.drop_of_length_le (by omega);have hr:Qr Tp 455 (Qb u) 0=some (.agg (Qb u)):=by rw[rd455,if_pos (by omega),Zr1,ut]
   simp only[wX,↓Qc,simprocAttr,ocl,usc,ut,Zl,Zd,Zqd];refine W.done (End.ret (v:= .agg (Qb u)) ?_ (by rw[<-hj',huu]));show(match(match Qr Tp 455 (Qb u) 0,(some []:Option (List V)) with|some v,some vs=>some (v::vs)|_,_=>none) with|some [v]=>some v|some vs=>some (.tuple vs)|none=>none)=_;rw[hr]
end
section
set_option maxRecDepth 100000
open Go.AM Go.AM.BM
theorem keyC_B(l:List UInt8):keyC (Qm5 (Qb l))=Qb (Qgm (Qbh l) 4):=by rw[Qw1];simp only[keyC,Qgm,Qjt,Y5,Zqm,wi];rfl
theorem Q2s(n:Nat):(b8 (Int.ofNat n)).toNat=Nat.mod n 256:=by
 have e:((Int.ofNat n)%256).toNat=n%256:=by show(((n:Nat):Int)%256).toNat=n%256;omega
 show(UInt8.ofNat ((Int.ofNat n)%256).toNat).toNat=n%256;rw[e,UInt8.toNat_ofNat'];omega
theorem onS_B(lf pl n:Nat)(u:List UInt8):onS lf pl n (Qb u)=Qb (onB (Int.ofNat lf) (Int.ofNat pl) u (Int.ofNat n)):=by
 have e3:Qb [b8 (Int.ofNat lf),b8 (Int.ofNat pl),b8 (Int.ofNat n)]=[V.int .u8 (Int.ofNat (Nat.mod lf 256)),.int .u8 (Int.ofNat (Nat.mod pl 256)),.int .u8 (Int.ofNat (Nat.mod n 256))]:=by show[V.int .u8 ((b8 (Int.ofNat lf)).toNat:Nat),V.int .u8 ((b8 (Int.ofNat pl)).toNat:Nat),V.int .u8 ((b8 (Int.ofNat n)).toNat:Nat)]=_;rw[Q2s,Q2s,Q2s];rfl
 unfold onS;rw[<-e3,<-Y5];unfold onB;rw[<-keyC_B];generalize Qm5 (Qb (u++[b8 (Int.ofNat lf),b8 (Int.ofNat pl),b8 (Int.ofNat n)]))=x;simp only[Qlf]
attribute [local irreducible] onS
theorem onI_B(lf pl a:Nat)(w:List UInt8):∀k:Nat,onI lf pl a (Qb w) k=Qb (Qr7 (Int.ofNat lf) (Int.ofNat pl) (Int.ofNat a) w k)
 |0=>rfl
 |k+1=>by
  have ih:=onI_B lf pl a w k;have e:onI lf pl a (Qb w) (k+1)=onS lf pl (Nat.add a k) (onI lf pl a (Qb w) k):=rfl;rw[e,ih,onS_B];rfl
theorem kOn_fz(ys:List V)(v:V)(h:kOn ys=some v):FzN Tp Qf 375 ys v:=by
 unfold kOn at h;split at h
 case h_2=>cases h
 rename_i l lf pl a b;split at h
 case h_2=>cases h
 rename_i c hc;obtain⟨w,rfl,hb,_⟩:=Qim hc;obtain⟨hl,⟨h0,_⟩|⟨f,h1⟩⟩:=hb
 . cases h0
 injection h1 with h2 h3 h4;subst h2;cases hk:Nat.ble b (nat_lit 1000000)
 . rw[hk] at h;cases h
 . rw[hk] at h;cases h;have hb' :b<=1000000:=Zru hk;obtain⟨r,H,e1,rfl⟩:=on_cw (Int.ofNat lf) (Int.ofNat pl) w h3.symm (Int.ofNat a) (Int.ofNat b) (Int.natCast_nonneg a) (by show((b:Nat):Int)<=1000000;omega);have e2:(Int.ofNat b-Int.ofNat a).toNat=Nat.sub b a:=by
    show(((b:Nat):Int)-((a:Nat):Int)).toNat=b-a;omega
   refine⟨_,_,e1,?_⟩;rw[e2,onI_B];show Option.map V.agg (Qx (frzN _ 11) (Qb _))=_;rw[Qft];rfl
def Qlu(K:FuncId->Option Qdb):BM.Pol where
 prim:=fun f=>match f with
  |79=>some (Qsa Q26)
  |143=>some (conQ (Q3e 276))
  |67=>some (Qc4 Qus)
  |183=>some (Qsa kNew)
  |102=>some (Qc4 kMax)
  |175=>some (Qc4 kSum)
  |197=>some (Qc4 kKey)
  |375=>some (Qc4 kOn)
  |395=>some Qc7
  |504=>some Kq
  |193=>some K9
  |403=>some Ks
  |_=>none
 fix:=fun f=>f==303
 fixA:=fun f=>match f with
  |412=>some 2
  |302=>some 2
  |_=>none
 prims:=fun f=>match K f with
  |some g=>some g
  |none=>(match f with
   |_=>none)
theorem xMake:Kk Tp 395 (Extern.BytealgMakeNoZero.makeNoZero Tryz.f395.params Tryz.f395.resultTypes):=⟨Tryz.f395,Tryz.func395,by kernel_rfl,by kernel_rfl,by kernel_rfl,by kernel_rfl⟩
theorem xCmpS:Kk Tp 504 Extern.BytealgCompare.compare:=⟨Tryz.f504,Tryz.func504,by kernel_rfl,by kernel_rfl,by kernel_rfl,by kernel_rfl⟩
theorem xCount:Kk Tp 193 Extern.BytealgCount.count:=⟨Tryz.f193,Tryz.func193,by kernel_rfl,by kernel_rfl,by kernel_rfl,by kernel_rfl⟩
theorem xIndex:Kk Tp 403 Extern.BytealgIndexByte.indexByte:=⟨Tryz.f403,Tryz.func403,by kernel_rfl,by kernel_rfl,by kernel_rfl,by kernel_rfl⟩
theorem Qoo{K:FuncId->Option Qdb}{f:FuncId}{g:BM.Prim}(h:(Qlu K).prim f=some g):
 (f=79/\g=Qsa Q26)\/(f=143/\g=conQ (Q3e 276))\/(f=67/\g=Qc4 Qus)\/(f=183/\g=Qsa kNew)\/(f=102/\g=Qc4 kMax)\/(f=175/\g=Qc4 kSum)\/(f=197/\g=Qc4 kKey)\/(f=375/\g=Qc4 kOn)\/(f=395/\g=Qc7)\/(f=504/\g=Kq)\/(f=193/\g=K9)\/(f=403/\g=Ks):=by
 simp only[Qlu] at h;split at h<;>cases h<;>simp
theorem Qqa{K:FuncId->Option Qdb}(hK:∀f g,K f=some g->Qjq Tp f g){f:FuncId}{g:Qdb}(h:(Qlu K).prims f=some g):Qjq Tp f g:=by
 simp only[Qlu] at h;split at h
 . cases h;exact hK _ _ (by assumption)
 . cases h
theorem okC{K:FuncId->Option Qdb}(hK:∀f g,K f=some g->Qjq Tp f g):BM.Okay Tp (Qlu K) where
 mixed:=Tryz.checked.mixed
 draws:=fun f F c hF hc=>by rw[Q6z];exact okD.draws f F c hF hc
 loops:=fun f F c hF hc=>by rw[Q71];exact okD.loops f F c hF hc
 num:=okD.num
 prim:=fun f g hg B F H E fr dst args cargs v x S one h0 htab hr h=>by
  rcases Qoo hg with⟨rfl,rfl⟩|⟨rfl,rfl⟩|⟨rfl,rfl⟩|⟨rfl,rfl⟩|⟨rfl,rfl⟩|⟨rfl,rfl⟩|⟨rfl,rfl⟩|⟨rfl,rfl⟩|⟨rfl,rfl⟩|⟨rfl,rfl⟩|⟨rfl,rfl⟩|⟨rfl,rfl⟩
  . exact Qkg okD Q9b B F H E fr dst args cargs v x S one h0 htab hr h
  . exact Q1r okD Q91 B F H E fr dst args cargs v x S one h0 htab hr h
  . exact Qbz okD Q5o B F H E fr dst args cargs v x S one h0 htab hr h
  . exact Qkg okD Zbw B F H E fr dst args cargs v x S one h0 htab hr h
  . exact Qbz okD Zef B F H E fr dst args cargs v x S one h0 htab hr h
  . exact Qbz okD Zdn B F H E fr dst args cargs v x S one h0 htab hr h
  . exact Qbz okD Zc7 B F H E fr dst args cargs v x S one h0 htab hr h
  . exact Qbz okD kOn_fz B F H E fr dst args cargs v x S one h0 htab hr h
  . exact Qf4 one (AM.sound_make xMake (e:=5) (by kernel_rfl) S (by omega) hr h)
  . exact Qf4 one (AM.sound_compare xCmpS S hr h)
  . exact Qf4 one (AM.sound_count xCount S hr h)
  . exact Qf4 one (AM.sound_indexByte xIndex S hr h)
 loop:=fun f F c _ _=>Qzm (fun _=>rfl) c
 tame:={
  prim:=fun f g hg nm G G' args v w hle hn h=>by
   rcases Qoo hg with⟨rfl,rfl⟩|⟨rfl,rfl⟩|⟨rfl,rfl⟩|⟨rfl,rfl⟩|⟨rfl,rfl⟩|⟨rfl,rfl⟩|⟨rfl,rfl⟩|⟨rfl,rfl⟩|⟨rfl,rfl⟩|⟨rfl,rfl⟩|⟨rfl,rfl⟩|⟨rfl,rfl⟩
   . exact Qmi _ nm G G' args v w hle h
   . exact Q6n _ nm G G' args v w hle h
   . exact Qdf _ nm G G' args v w hle h
   . exact Qmi _ nm G G' args v w hle h
   . exact Qdf _ nm G G' args v w hle h
   . exact Qdf _ nm G G' args v w hle h
   . exact Qdf _ nm G G' args v w hle h
   . exact Qdf _ nm G G' args v w hle h
   . exact Qr5 nm G G' args v w hle hn h
   . exact Ql2 nm G G' args v w hle h
   . exact Qo2 nm G G' args v w hle h
   . exact Qkj nm G G' args v w hle h
  loop:=fun fn r g hg=>by cases hg
  prims:=fun f g hg=>(Qqa hK hg).tame}
 prims:=fun f g hg=>(Qqa hK hg).sound
theorem nlC(K:FuncId->Option Qdb):Qdy (Qlu K):=fun _ _=>rfl
set_option maxRecDepth 1000000
def bk0:V:= .iS (K8 256 0x139f058aed47ce5800000000000000000000010e000000010000000143) 256 true
def bk1:V:= .iS (K8 256 0x641d1b0600000000000000000000010d000000000000000000000000000000000000000000000000000000000000000000000000000000000000000000000000641d1b0600000000000000000000010c00000000000000000000000001000152) 256 true
def bl0:List V:=(zbT::(bk0::(Qbf 12 zbT (bk1::(Qbf 241 zbT [])))))
def bk2:V:= .iS (K8 256 0x10101010101010101010101010101) 256 false
def bk3:V:= .iS (K8 256 0x14ac6887cb89a6d600000000000000000000010e000000020000000143) 256 true
def bk4:V:= .iS (K8 256 0x641d1b0600000000000000000000010d000000000000000000000000000000000000000000000000000000000000000000000000000000000000000000000000641d1b0600000000000000000000010c00000000000000000000000002000152) 256 true
def bl1:List V:=(upT 14 bk4 (upT 1 bk3 bl0))
def rnp_0:V:=(.agg [(.iS [(.iS bl0 256 false),.nS,bk2,(n32 1),(n32 0),(n32 1),(n64 14),(n32 1),(n32 0),(n32 0),(n32 3980906072),(.iS [(n64 12),(n64 13),(n64 14)] 3 false),.nS,(.iS (Qbf 8 .nS []) 8 false),(.iS (Qbf 8 .nS []) 8 false),.nS,(n64 0),(n64 1),(n32 1),(.iS bl1 256 false),.nS,bk2,(n32 2),(n32 0),(n32 1),(n64 14),(n32 1),(n32 0),(n32 0),(n32 3414795990),(.iS [(n64 12),(n64 13),(n64 14)] 3 false),.nS,(.iS (Qbf 8 .nS []) 8 false),(.iS (Qbf 8 .nS []) 8 false),.nS,(n64 0),(n64 1),(n32 2)] 2 false),.nS,(.iS (K8 16 0x65657478697320666f20646565732061) 16 false),(n64 0)])
def rnp_1:V:=(n64 0)
def rnp:V:= .tuple [rnp_0,rnp_1]
def anp:List V:=[(.iS (K8 16 0x65657478697320666f20646565732061) 16 true)]
theorem ans_np:Ans Tp 16 anp rnp:=Qak (okC noK) (nlC _) (by kernel_rfl:Qry (Qgf Tp (Qlu (fun _=>none)) 1000 (some 16) anp F0)=some rnp) (by kernel_rfl)
def bk5:V:= .iS (K8 256 0xcc12d7398eaccc15000000000000000000000211000000010000000243) 256 true
def bk6:V:= .iS (K8 256 0x100000100010101) 256 true
def bk7:V:= .iS (K8 256 0x3a2bfeb64d5c3292944d3cc3ddb461dea17b72b600000001) 256 true
def bk8:V:= .iS (K8 256 0x1429221f0000000000000000000002100000000000000000000000000000000000000000000000000000000000000000000000000000000000000000000000002dc16d3f00000000000000000000020f00000000000000000100000003000252) 256 true
def bl2:List V:=(upT 17 bk8 (upT 16 bk7 (upT 15 bk6 (upT 14 bk1 (upT 2 bk5 (upT 1 bk0 bl1))))))
def bk9:V:= .iS (K8 256 0x10101000000010101010101010101010101) 256 true
def rp1_0:V:=(.agg [(.iS [(.iS bl2 256 false),.nS,bk9,(n32 1),(n32 0),(n32 2),(n64 17),(n32 2),(n32 0),(n32 0),(n32 2393689109),(.iS [(n64 15),(n64 16),(n64 17)] 3 false),(.iS [(n64 1),(n8 1),(n64 1),(n64 0),(n32 1),(n32 1),(n64 0),(n64 0),(n32 0),(n32 0),(n32 0),(n32 0),.nS] 1 false),(.iS ((.iS (K8 24 0x3a2bfeb64d5c3292944d3cc3ddb461dea17b72b600000001) 24 false)::(Qbf 7 .nS [])) 8 false),(.iS ((.iS (K8 16 0x95607d78f7e34c5956cfb7aa51f85bef) 16 false)::(Qbf 7 .nS [])) 8 false),.nS,(n64 0),(n64 2),(n32 3),(.iS bl1 256 false),.nS,bk2,(n32 2),(n32 0),(n32 1),(n64 14),(n32 1),(n32 0),(n32 0),(n32 3414795990),(.iS [(n64 12),(n64 13),(n64 14)] 3 false),.nS,(.iS (Qbf 8 .nS []) 8 false),(.iS (Qbf 8 .nS []) 8 false),.nS,(n64 0),(n64 1),(n32 2)] 2 false),.nS,(.iS (K8 16 0x65657478697320666f20646565732061) 16 false),(n64 0)])
def rp1_1:V:=(.agg [(n64 0),(n64 1),.nS,.nS,(n64 0),(n8 0),(n64 0),(n64 0),(.str []),.nS])
def rp1:V:= .tuple [rp1_0,rp1_1]
def ap1:List V:=[rnp_0,(.agg [(n8 1),(n64 0),(n64 0),(n64 0),(n8 1),(n64 0),(n64 0),(n64 0),(.str []),(.str []),(.str [112]),.nS,.nS])]
abbrev L1:=(anp,rnp)::([]:List (List V×V))
theorem l1:Qfn Tp 16 L1:=Qcx (by kernel_rfl) ans_np Qzc
abbrev K1:=Qxa 16 (Qi3 (Qjd L1)) (fun _=>none)
theorem k1:KOk Tp K1:=Qig (Qh9 l1) noK
theorem ans_p1:Ans Tp 6 ap1 rp1:=Qak (okC k1) (nlC _) (by kernel_rfl:Qry (Qgf Tp (Qlu K1) 1000 (some 6) ap1 F0)=some rp1) (by kernel_rfl)
end
end Go.Proofs.YtpdimkonjmoadaaGreatDoor
end
