/- This file holds in one the texts F22, F23, F24, F25, F26; each says at its head what it proves. -/
import Derived.Test.YtidniacddkalaaaGreatDoorT35
import Derived.Test.YtidniacddkalaaaGreatDoorT38
import Derived.Test.YtidniacddkalaaaGreatDoorT39
set_option linter.unusedSimpArgs false
set_option linter.unusedVariables false
section
set_option maxRecDepth 100000
namespace Go.Proofs.YtidniacddkalaaaGreatDoor
open Go.AM
attribute [local irreducible] U W
theorem u8w(x:Int):∃z:UInt8,(IntKind.u8).wrap x=((z.toNat:Nat):Int):=by
 refine⟨UInt8.ofNat (x%256).toNat,?_⟩;rw[IntKind.wrap_u8];have h:(x%256).toNat<256:=by omega
 simp only[UInt8.toNat_ofNat'];omega
theorem Quh(c o:List UInt8)(i:Nat)(h:i<o.length):(Qb o)[i]?=some (.int .u8 ((o[i].toNat:Nat):Int)):=by simp[Qb,Zra h]
theorem Zdd(o:List UInt8)(i:Nat)(z:UInt8)(h:i<o.length):(Qb o).take i++ .int .u8 ((z.toNat:Nat):Int)::(Qb o).drop (i+1)=Qb (o.set i z):=by simp only[Qb,List.map_set];rw[List.set_eq_take_append_cons_drop,if_pos (by simpa using h)]
theorem Zew(kv bv:V)(k b:List UInt8)(iv:Int)(hk:Qf kv k)(hb:Qf bv b)(hbl:b.length=256):Fz Tryz.prog Qg 140 [kv,.int .u32 iv,bv] Qgl:=by
 refine Qw Tryz.func140 rfl ?_;have len:=hk.len Tryz.underlying26;have lenb:=hb.len Tryz.underlying26;rw[hbl] at lenb;by_cases h16:k.length=16
 . rw[h16] at len;obtain⟨r,H',e1,c,hc,rfl,rfl⟩:=Q6b kv k iv hk h16;have hcall:∀d,callOp Qg (Qp Tryz.prog Qg) 140 0 d 182 [kv,.int .u32 iv,.int .i64 256] [[]]=_:=fun d=>K0 rfl rfl rfl e1;simp only[wA,↓Qc,simprocAttr,Tryz.ntmps140,ta,wH,wB,len,lenb,hcall];refine W.ul ?_;refine W.loop (fun(i:Nat) t H=>∃o:List UInt8,o.length=256/\Yf [8,9,28,29,30] t 0=Q3q (.mS 1 35 0 256 none 1) (.int .i64 0) bv (.int .i64 256) (.int .i64 i)/\i<=256/\H=strH c o) (fun i=>256-i) ?_ 0 ⟨c,hc,rfl,Zt2 _,rfl⟩;rintro i t H ⟨o,ho,ht,hi,rfl⟩;refine⟨_,_,Ji (kt:=[8,9,28,29,30]) rfl rfl,?_⟩;rw[ht];simp only[Q3q];by_cases h:i<256
   . have c1:decide ((i:Int)<256)=true:=Zum (by omega);have w1:(IntKind.i64).wrap ((i:Int)+1)=((i+1:Nat):Int):=by rw[wrap_i64]<;>omega
     have at1:=Q0.at (P:=Tryz.prog) (k:= .i64) Tryz.underlying26 sz5 (by decide) hb (i:=(i:Int)) (by omega) (by omega);have g1:(Qb b)[(i:Int).toNat*1]?=some (.int .u8 ((b[i].toNat:Nat):Int)):=by rw[Ztx,Zsd];exact Quh [] b i (by omega)
     have g1' :(Qb b)[(i:Int).toNat]?=some (.int .u8 ((b[i].toNat:Nat):Int)):=by rw[Ztx];exact Quh [] b i (by omega)
     have am:Qm Tryz.prog 26 (.mS 1 35 0 256 none 1) (.int .i64 i)=some (.ptr 1 35 i):=by simp only[Qm,Tryz.underlying26,sz5];rw[if_pos ⟨by omega,by omega,trivial⟩];simp
     have g2:=Quh [] o i (by omega);have ol:(Qb o).length=256:=by rw[Q8,ho]
     obtain⟨z,hz⟩:=u8w (((BitVec.ofInt (IntKind.u8).bits (o[i].toNat:Int))^^^(BitVec.ofInt (IntKind.u8).bits (b[i].toNat:Int))).toNat:Int);have bx:∀p q,Zp Tryz.prog .xor 5 p q (.int .u8 ((o[i].toNat:Nat):Int)) (.int .u8 ((b[i].toNat:Nat):Int))=some (.int .u8 ((z.toNat:Nat):Int)):=fun p q=>by rw[<-hz];rfl
     have sp:=Zdd o i z (by omega);have il:i+1<=256:=h;generalize o[i]=oi at*;generalize b[i]=bi at*;simp only[strH];simp only[wA,↓Qc,simprocAttr,ta,wH,wB,c1,w1,at1,g1,g1',am,g2,bx,ol,il];refine W.done ⟨i+1,⟨o.set i z,by simp[ho],rfl,h,?_⟩,by omega⟩;rw[Zsz,List.singleton_append,sp]
   . have c1:decide ((i:Int)<256)=false:=Zun (by omega);have hi' :i=256:=by omega
     subst hi';simp only[strH];simp only[wA,↓Qc,simprocAttr,ta,wH,wB,c1];refine W.done ?_;simp only[wA,↓Qc,simprocAttr,ta,wH,wB];have f1:=Q1i (g:=Qd (strH c o)) (f:=1) (s:=35) (l:=o) rfl 9;rw[ho] at f1;exact W.done (Qk.ret (v:= .tuple [.mS 1 35 0 256 none 1,.int .i64 0]) rfl (Jc (Qa f1 (Qa rfl rfl))) ⟨_,0,rfl,.inl ⟨rfl,o,by have:=Qf.mk o false;rwa[ho] at this,ho⟩⟩)
 . have c1:((k.length:Int) !=16)=true:=by simp;omega
   simp only[wA,↓Qc,simprocAttr,Tryz.ntmps140,ta,wH,wB,len,c1];exact W.done (Qk.ret (v:= .tuple [.nS,.int .i64 2]) rfl rfl ⟨_,2,rfl,.inr ⟨by decide,rfl⟩⟩)
theorem Qq3(kv bv:V)(k b:List UInt8)(iv:Int)(hk:Qf kv k)(hb:Qf bv b)(hbl:b.length=256):Fz Tryz.prog Qg 100 [kv,.int .u32 iv,bv] Qgl:=by
 refine Qw Tryz.func100 rfl ?_;have len:=hk.len Tryz.underlying26;have lenb:=hb.len Tryz.underlying26;rw[hbl] at lenb;obtain⟨m,⟨v,e,rfl,hr⟩,hm⟩:=(Zew kv bv k b iv hk hb hbl).op (by rfl) (Qa (hk.frz _) (Qa rfl (Qa (hb.frz _) rfl)));have hm1:∀s H,_:=fun s H=>hm 100 0 s H rfl;have hf:∀g,AM.frz g 11 v=some v:=fun g=>by
  rcases hr with⟨_,l,hl,_⟩|⟨_,rfl⟩
  . exact hl.frz 10
  . rfl
 cases c1:((k.length:Int)==16)
 all_goals
  simp only[wA,↓Qc,simprocAttr,Tryz.ntmps100,ta,wH,wB,len,lenb,hm1,c1];exact W.done (Qk.ret (v:= .tuple [v,.int .i64 e]) rfl (Jc (Qa (hf _) (Qa rfl rfl))) ⟨v,e,rfl,hr⟩)
theorem Qx0(kv bv:V)(k b:List UInt8)(iv tag:Int)(hk:Qf kv k)(hb:Qf bv b)(hkl:k.length<=100000)(hbl:b.length=256):Fz Tryz.prog Qg 57 [kv,.int .u32 iv,bv,.int .u32 tag] Qgl:=by
 refine Qw Tryz.func57 rfl ?_;obtain⟨m,⟨v,e,rfl,hr⟩,hm⟩:=(Qq3 kv bv k b iv hk hb hbl).op (by rfl) (Qa (hk.frz _) (Qa rfl (Qa (hb.frz _) rfl)));have hm1:∀s H,_:=fun s H=>hm 57 0 s H rfl;obtain⟨m,⟨y,z,rfl⟩,hm⟩:=(Q40 kv bv k b iv hk hb hkl hbl).op (by rfl) (Qa (hk.frz _) (Qa rfl (Qa (hb.frz _) rfl)));have hm2:∀s H,_:=fun s H=>hm 57 0 s H rfl;have bad:∀(x:Int) (T:List V) (H:Heap),x≠0->T.getD 8 .bad= .nS->T.getD 9 .bad= .int .i64 x->Qk Tryz.prog Tryz.f57 Qgl .ret T H:=by intro x T H hx h1 h2;refine Qk.ret (v:= .tuple [.nS,.int .i64 x]) ?_ rfl ⟨_,x,rfl,.inr ⟨hx,rfl⟩⟩;show(match Ks Tryz.prog T H [.tmp 8,.tmp 9] with|some [v]=>some v|some vs=>some (V.tuple vs)|none=>none)=_;simp only[Ks,Jv,h1,h2]
 rcases hr with⟨rfl,l,hl,hll⟩|⟨he,rfl⟩
 . have good:∀(T:List V) (H:Heap),T.getD 8 .bad=v->T.getD 9 .bad= .int .i64 0->Qk Tryz.prog Tryz.f57 Qgl .ret T H:=by
    intro T H h1 h2;refine Qk.ret (v:= .tuple [v,.int .i64 0]) ?_ (Jc (Qa (hl.frz 10) (Qa rfl rfl))) ⟨_,0,rfl,.inl ⟨rfl,l,hl,hll⟩⟩;show(match Ks Tryz.prog T H [.tmp 8,.tmp 9] with|some [v]=>some v|some vs=>some (V.tuple vs)|none=>none)=_;simp only[Ks,Jv,h1,h2]
   cases c1:(z !=0)<;>cases c2:(y !=tag)
   case false.false=>simp only[wA,↓Qc,simprocAttr,Tryz.ntmps57,ta,wH,wB,hm1,hm2,c1,c2];exact W.done (good _ _ rfl rfl)
   all_goals
    simp only[wA,↓Qc,simprocAttr,Tryz.ntmps57,ta,wH,wB,hm1,hm2,c1,c2];exact W.done (bad 131 _ _ (by decide) rfl rfl)
 . have c1:(e !=0)=true:=by simpa using he
   simp only[wA,↓Qc,simprocAttr,Tryz.ntmps57,ta,wH,wB,hm1,hm2,c1];exact W.done (bad e _ _ he rfl rfl)
theorem Qto{bv wv sv:V}{bl wl sp}(h:Qco bv wv sv bl wl sp)(e c:Int)(p:Zq)(kv:V)(k:List UInt8)(hk:Qf kv k)(hkl:k.length<=100000):Fz Tryz.prog Qg 33 [Qdb bv wv sv e c,.agg p.cells,kv] Qgl:=by
 refine Qw Tryz.func33 rfl ?_;have fs:=Qas h e c (fun _ _=>none);obtain⟨m,⟨v,x,rfl,hr⟩,hm⟩:=(Qu9 h e c p).op (by rfl) (Qa fs (Qa rfl rfl));have hm1:∀s H,_:=fun s H=>hm 33 0 s H rfl;have bad:∀(x:Int) (T:List V) (H:Heap),x≠0->T.getD 6 .bad= .nS->T.getD 7 .bad= .int .i64 x->Qk Tryz.prog Tryz.f33 Qgl .ret T H:=by intro x T H hx h1 h2;refine Qk.ret (v:= .tuple [.nS,.int .i64 x]) ?_ rfl ⟨_,x,rfl,.inr ⟨hx,rfl⟩⟩;show(match Ks Tryz.prog T H [.tmp 6,.tmp 7] with|some [v]=>some v|some vs=>some (V.tuple vs)|none=>none)=_;simp only[Ks,Jv,h1,h2]
 obtain⟨bcs,hbc,hbv⟩:=id h.blocks;obtain⟨wcs,hwc,hwv⟩:=id h.waits;have sb:=Ze hbv;have sw:=Ze hwv;have ss:=Ze h.space;have len:=hk.len Tryz.underlying26;obtain⟨p1,p2,p3,p4,p5⟩:=p;simp only[Zq.cells] at hm1⊢;rcases hr with⟨rfl,l,hl,hll⟩|⟨hx,rfl⟩
 . obtain⟨m,⟨v2,e2,rfl,hr⟩,hm⟩:=(Qx0 kv v k l p3 p4 hk hl hkl hll).op (by rfl) (Qa (hk.frz _) (Qa rfl (Qa (hl.frz _) (Qa rfl rfl))));have hm2:∀s H,_:=fun s H=>hm 33 0 s H rfl;cases c1:((k.length:Int) !=16)
   . rcases hr with⟨rfl,l2,hl2,hll2⟩|⟨he,rfl⟩
     . have good:∀(T:List V) (H:Heap),T.getD 6 .bad=v2->T.getD 7 .bad= .int .i64 0->Qk Tryz.prog Tryz.f33 Qgl .ret T H:=by
        intro T H h1 h2;refine Qk.ret (v:= .tuple [v2,.int .i64 0]) ?_ (Jc (Qa (hl2.frz 10) (Qa rfl rfl))) ⟨_,0,rfl,.inl ⟨rfl,l2,hl2,hll2⟩⟩;show(match Ks Tryz.prog T H [.tmp 6,.tmp 7] with|some [v]=>some v|some vs=>some (V.tuple vs)|none=>none)=_;simp only[Ks,Jv,h1,h2]
       simp only[wA,↓Qc,simprocAttr,Tryz.ntmps33,ta,wH,wB,sb,sw,ss,hm1,len,c1,hm2];exact W.done (good _ _ rfl rfl)
     . have c2:(e2 !=0)=true:=by simpa using he
       simp only[wA,↓Qc,simprocAttr,Tryz.ntmps33,ta,wH,wB,sb,sw,ss,hm1,len,c1,hm2,c2];exact W.done (bad 131 _ _ (by decide) rfl rfl)
   . simp only[wA,↓Qc,simprocAttr,Tryz.ntmps33,ta,wH,wB,sb,sw,ss,hm1,len,c1];exact W.done (bad 3 _ _ (by decide) rfl rfl)
 . have c1:(x !=0)=true:=by simpa using hx
   simp only[wA,↓Qc,simprocAttr,Tryz.ntmps33,ta,wH,wB,sb,sw,ss,hm1,len,c1];exact W.done (bad x _ _ hx rfl rfl)
end Go.Proofs.YtidniacddkalaaaGreatDoor
namespace Go.Proofs.YtidniacddkalaaaGreatDoor
open Go.AM
attribute [local irreducible] U W
section
variable {bv wv sv mv lv kv ov cv : V} {x : B6}
theorem pairs4{a b:Int}(h:Bg [a,16,b,15]=true):0<=b/\b<15:=by simp[Bg] at h;omega
theorem row256{k:List UInt8}(h:k.length=256):Ju (Qb k):=⟨by rw[Q8,h],by simp[Qb,Qje]⟩
theorem Qyk(h:Jx bv wv sv mv lv kv ov cv x)(f:x.Fits)(id obj index:Int):Fz Tryz.prog Qg 14 [.agg (Zd bv wv sv mv lv kv ov cv x.p),.int .i64 id,.int .i64 obj,.int .i64 index] Qgl:=by
 refine Qw Tryz.func14 rfl ?_;have fp:=Xu h;obtain⟨m,⟨l,dv,e,rfl,hd,hr⟩,hm⟩:=(Qvg h f id).op (by rfl) (Qa (fp _) (Qa rfl rfl));have hm1:∀s H,_:=fun s H=>hm 14 0 s H rfl;obtain⟨m,rfl,hm⟩:=(Qs9 (.iS [.int .i64 obj,.int .i64 16,.int .i64 index,.int .i64 15] 4 true) [obj,16,index,15] (Ke.mk _ _) 2 rfl (by omega)).op (by rfl) rfl;have hm2:∀s H,_:=fun s H=>hm 14 0 s H rfl;obtain⟨s1,s2,s3,s4,s5,s6,s7,s8⟩:=Bf h;have sd:=Ze hd;have mt:∀s,s<2000000->Qg.mt 14 s=false:=fun s h=>Qch h rfl;have bad:∀(y:Int) (T:List V) (H:Heap),y≠0->T.getD 8 .bad= .nS->T.getD 9 .bad= .int .i64 y->Qk Tryz.prog Tryz.f14 Qgl .ret T H:=by intro y T H hy h1 h2;refine Qk.ret (v:= .tuple [.nS,.int .i64 y]) ?_ rfl ⟨_,y,rfl,.inr ⟨hy,rfl⟩⟩;show(match Ks Tryz.prog T H [.tmp 8,.tmp 9] with|some [v]=>some v|some vs=>some (V.tuple vs)|none=>none)=_;simp only[Ks,Jv,h1,h2]
 have res:∀(v:V) (y:Int) (T:List V) (H:Heap),((y=0/\∃l:List UInt8,Qf v l/\l.length=256)\/(y≠0/\v= .nS))->T.getD 8 .bad=v->T.getD 9 .bad= .int .i64 y->Qk Tryz.prog Tryz.f14 Qgl .ret T H:=by
  intro v y T H hv h1 h2;refine Qk.ret (v:= .tuple [v,.int .i64 y]) ?_ (Jc (Qa (y:=v) ?_ (Qa rfl rfl))) ⟨v,y,rfl,hv⟩
  . show(match Ks Tryz.prog T H [.tmp 8,.tmp 9] with|some [v]=>some v|some vs=>some (V.tuple vs)|none=>none)=_;simp only[Ks,Jv,h1,h2]
  . rcases hv with⟨_,l,hl,_⟩|⟨_,rfl⟩
    . exact hl.frz 10
    . rfl
 have zero:∀(T:List V) (H:Heap) (d:Nat),T.getD 8 .bad= .mS 0 d 0 256 (some 256) 1->T.getD 9 .bad= .int .i64 0->Qd H 0 d=some (.cells (Qb (zB 256)))->Qk Tryz.prog Tryz.f14 Qgl .ret T H:=by
  intro T H d h1 h2 h3;have e:Qt (AM.frz (Qd H) 10) (Qb (zB 256))=some (Qb (zB 256)):=Qcr _ _ _;have t:((Qb (zB 256)).drop 0).take (256*1)=Qb (zB 256):=by rw[Ztu];exact Ztz (by rw[Q8,Qgc];decide)
  have zl:(Qb (zB 256)).length=256:=by rw[Q8,Qgc]
  refine Qk.ret (v:= .tuple [.mS 0 d 0 256 (some 256) 1,.int .i64 0]) ?_ (Jc (Qa (y:= .iS (Qb (zB 256)) 256 true) ?_ (Qa rfl rfl))) ⟨_,0,rfl,.inl ⟨rfl,zB 256,by have:=Qf.mk (zB 256) true;rwa[Qgc] at this,Qgc _⟩⟩
  . show(match Ks Tryz.prog T H [.tmp 8,.tmp 9] with|some [v]=>some v|some vs=>some (V.tuple vs)|none=>none)=_;simp only[Ks,Jv,h1,h2]
  . show(match Qd H 0 d with
     |some (.cells xs)=>if 0+256*1<=xs.length then(Qt (AM.frz (Qd H) 10) ((xs.drop 0).take (256*1))).map fun cs=>V.iS cs 256 ((some 256:Option Nat)==some 256) else none
     |_=>none)=_
    rw[h3];simp only[t,e,zl];rfl
 rcases hr with⟨rfl,hok,hmem,hid⟩|⟨he,rfl⟩
 case inr=>
  have c1:(e !=0)=true:=by simpa using he
  simp only[Zd,Zu,Qob,J3] at hm1⊢;simp only[wA,↓Qc,simprocAttr,Tryz.ntmps14,ta,wH,wB,hm1,s1,s2,s3,s4,s5,s6,s7,s8,sd,c1];exact W.done (bad e _ _ he rfl rfl)
 have good:=Qz9 hok;obtain⟨hro,hk0,hk8⟩:=good.line l hmem;obtain⟨m,⟨hc,hcv,e2,rfl,⟨hk,hhk⟩,hs⟩,hm⟩:=(Q4c h f hok l dv hd obj).op (by rfl) (Qa (fp _) (Qa (Qbx hd) (Qa rfl rfl)));have hm3:∀s H,_:=fun s H=>hm 14 0 s H rfl;have shk:=Ze hhk;obtain⟨m,⟨c,cdv,b,rfl,⟨k,hck,hcn⟩,hc2⟩,hm⟩:=(Qs7 h hok id obj index).op (by rfl) (Qa (fp _) (Qa rfl rfl));have hm4:∀s H,_:=fun s H=>hm 14 0 s H rfl;have sck:=Ze hck;have lck:=hck.len Tryz.underlying26;obtain⟨m,⟨o,pv,e3,rfl,hpv,ho⟩,hm⟩:=(Qsf h f l dv hd obj).op (by rfl) (Qa (fp _) (Qa (Qbx hd) (Qa rfl rfl)));have hm5:∀s H,_:=fun s H=>hm 14 0 s H rfl;have spv:=Ze hpv;obtain⟨ocs,hoc,hov⟩:=h.loaded;have hll:=good.loaded;obtain⟨wk,hw1,hwk⟩:=hoc.at_ (i:=l.key.toNat) (by omega);have hkl:(x.p.loaded[l.key.toNat]'(by omega)).length<=100000:=by have:=good.key _ (Ztp (by omega:l.key.toNat<x.p.loaded.length));omega
 have atk:=hov.at (k:= .i64) Tryz.underlying22 Qew (by decide) (i:=l.key) hk0 (by omega);have gk1:ocs[l.key.toNat*1]?=some wk:=by rw[Zsd];exact hw1
 generalize x.p.loaded[l.key.toNat]'(by omega)=key at*;have lwk:=hwk.len Tryz.underlying26;have swk:=Ze hwk;have hst:=Qn4 h f;have opn:∀p:Zq,∃v2 e4,(∀s H,callOp Qg (Qp Tryz.prog Qg) 14 0 s 33 [Qdb bv wv sv x.p.epoch x.p.count,.agg p.cells,wk] H=some (.ret (.tuple [v2,.int .i64 e4]),H))/\((e4=0/\∃l:List UInt8,Qf v2 l/\l.length=256)\/(e4≠0/\v2= .nS)):=fun p=>by obtain⟨m,⟨v2,e4,rfl,hr⟩,hm⟩:=(Qto hst x.p.epoch x.p.count p wk key hwk hkl).op (by rfl) (Qa (Qas hst _ _ _) (Qa rfl (Qa (hwk.frz _) rfl)));exact⟨v2,e4,fun s H=>hm 14 0 s H rfl,hr⟩
 have eq0:∀(p:Zq) u w,Zp Tryz.prog .eql 31 u w (.agg p.cells) (.agg J3.cells)=some (.bool (decide (p=J3))):=fun p u w=>Qjv p J3;cases hp:Bg [obj,16,index,15]
 . rw[hp] at hm2;obtain⟨lid,kind,owner,prev,txg,guid,lkey,⟨ra,rb,rc,rd,re⟩,dead⟩:=l;simp only[Zd,Zu] at hm1⊢;simp only[wA,↓Qc,simprocAttr,Tryz.ntmps14,ta,wH,wB,hm1,hm2,s1,s2,s3,s4,s5,s6,s7,s8,sd,mt,Tryz.underlying32];exact W.done (bad 2 _ _ (by decide) rfl rfl)
 . rw[hp] at hm2;obtain⟨hi0,hi15⟩:=pairs4 hp;obtain⟨lid,kind,owner,prev,txg,guid,lkey,⟨ra,rb,rc,rd,re⟩,dead⟩:=l;obtain⟨h1,h2,h3,h4,h5,h6,h7,⟨hp1,hp2,hp3,hp4,hp5⟩⟩:=hc;simp only[Zd,Zu,Za] at hm1 hm3 hm4 hm5⊢;by_cases hkz:key.length=0
   . have ck:((key.length:Int)==0)=true:=by simp[hkz]
     simp only[wA,↓Qc,simprocAttr,Tryz.ntmps14,ta,wH,wB,hm1,hm2,s1,s2,s3,s4,s5,s6,s7,s8,sd,mt,Tryz.underlying32,atk,gk1,hw1,lwk,ck];exact W.done (bad 200 _ _ (by decide) rfl rfl)
   have ck:((key.length:Int)==0)=false:=by
    have:(key.length:Int)≠0:=by omega
    simpa using this
   by_cases he2:e2=0
   case neg=>
    have c1:(e2 !=0)=true:=by simpa using he2
    simp only[wA,↓Qc,simprocAttr,Tryz.ntmps14,ta,wH,wB,hm1,hm2,s1,s2,s3,s4,s5,s6,s7,s8,sd,mt,Tryz.underlying32,atk,gk1,hw1,lwk,ck,hm3,shk,c1];exact W.done (bad e2 _ _ he2 rfl rfl)
   subst he2;rcases hc2 with⟨rfl,hcm,q1,q2,q3⟩|⟨rfl,rfl⟩
   . have hn:=Qyg (good.change c hcm);obtain⟨v2,e4,hm6,hr6⟩:=opn c.laid;have e0:=eq0 c.laid;generalize decide (c.laid=J3)=zb at e0;obtain⟨c1,c2,c3,c4,c5,c6,c7,⟨p1,p2,p3,p4,p5⟩⟩:=c;simp only at hcn hn;simp only[Zq.cells,J3] at hm6 e0;by_cases hkn:k.length=0
     . have cg:decide ((k.length:Int)>0)=false:=Zun (by omega);cases zb
       . simp only[wA,↓Qc,simprocAttr,Tryz.ntmps14,ta,wH,wB,hm1,hm2,s1,s2,s3,s4,s5,s6,s7,s8,sd,mt,Tryz.underlying32,atk,gk1,hw1,lwk,ck,hm3,shk,hm4,sck,lck,cg,e0,hm6];exact W.done (res v2 e4 _ _ hr6 rfl rfl)
       . have r1:Jl 256 1=true:=rfl;simp only[wA,↓Qc,simprocAttr,Tryz.ntmps14,ta,wH,wB,hm1,hm2,s1,s2,s3,s4,s5,s6,s7,s8,sd,mt,Tryz.underlying32,atk,gk1,hw1,lwk,ck,hm3,shk,hm4,sck,lck,cg,e0,r1,Tryz.underlying26,Qcp];exact W.done (zero _ _ 96 rfl rfl rfl)
     . have k256:k.length=256:=by omega
       have cg:decide ((k.length:Int)>0)=true:=Zum (by omega);obtain⟨fl,rfl⟩:=Qcw hck k256;obtain⟨m,rfl,hm⟩:=(Qxo (Qb k) fl (row256 k256)).op (by rfl) (Qa (hck.frz _) rfl);have hm7:∀s H,_:=fun s H=>hm 14 0 s H rfl;have hb2:Qf (.iS (Qb k) 256 false) k:=by have:=Qf.mk k false;rwa[k256] at this
       simp only[wA,↓Qc,simprocAttr,Tryz.ntmps14,ta,wH,wB,hm1,hm2,s1,s2,s3,s4,s5,s6,s7,s8,sd,mt,Tryz.underlying32,atk,gk1,hw1,lwk,ck,hm3,shk,hm4,lck,cg,hm7];exact W.done (res _ 0 _ _ (.inl ⟨rfl,k,hb2,k256⟩) rfl rfl)
   . by_cases he3:e3=0
     case neg=>
      have c1:(e3 !=0)=true:=by simpa using he3
      obtain⟨ok,ol,os,od⟩:=o;simp only[Qeh,J3,Qgi] at hm4 hm5;simp only[wA,↓Qc,simprocAttr,Tryz.ntmps14,ta,wH,wB,hm1,hm2,s1,s2,s3,s4,s5,s6,s7,s8,sd,mt,Tryz.underlying32,atk,gk1,hw1,lwk,ck,hm3,shk,hm4,sck,lck,hm5,spv,c1];exact W.done (bad e3 _ _ he3 rfl rfl)
     subst he3;obtain⟨hd15,hpo,_,_⟩:=ho rfl;obtain⟨q,hq,atq,ldq⟩:=Q3x hpv hi0 (by omega:index<o.data.length);obtain⟨v2,e4,hm6,hr6⟩:=opn q;have e0:=eq0 q;generalize decide (q=J3)=zb at e0;obtain⟨ok,ol,os,od⟩:=o;obtain⟨p1,p2,p3,p4,p5⟩:=q;simp only[Zq.cells,J3] at hm6 e0 ldq;simp only[Qeh,J3,Qgi] at hm4 hm5;cases zb
     . simp only[wA,↓Qc,simprocAttr,Tryz.ntmps14,ta,wH,wB,hm1,hm2,s1,s2,s3,s4,s5,s6,s7,s8,sd,mt,Tryz.underlying32,atk,gk1,hw1,lwk,ck,hm3,shk,hm4,sck,lck,hm5,spv,atq,ldq,e0,hm6];exact W.done (res v2 e4 _ _ hr6 rfl rfl)
     . have r1:Jl 256 1=true:=rfl;simp only[wA,↓Qc,simprocAttr,Tryz.ntmps14,ta,wH,wB,hm1,hm2,s1,s2,s3,s4,s5,s6,s7,s8,sd,mt,Tryz.underlying32,atk,gk1,hw1,lwk,ck,hm3,shk,hm4,sck,lck,hm5,spv,atq,ldq,e0,r1,Tryz.underlying26,Qcp];exact W.done (zero _ _ 96 rfl rfl rfl)
end
end Go.Proofs.YtidniacddkalaaaGreatDoor
namespace Go.Proofs.YtidniacddkalaaaGreatDoor
open Go.AM
attribute [local irreducible] U W
theorem wide1(s:ByteArray)(pos:Nat):1<=(Utf8.decode s pos).2:=by
 unfold Utf8.decode;simp only
 (repeat' split)<;>simp
theorem odd_fz(r:Int):Fz Tryz.prog Qg 18 [.int .i32 r] fun x=>∃b,x= .bool b:=by
 refine Qw Tryz.func18 rfl ?_;simp only[wA,↓Qc,simprocAttr,Tryz.ntmps18,ta,wH,wB]
 repeat' ((first|refine W.guardF ?_ ?_|refine W.guardT ?_ ?_|refine W.guardXF ?_ ?_|refine W.guardXT ?_ ?_|refine W.ite ?_ ?_|refine W.opsK1 (by kernel_rfl) ?_)<;>intro h<;>simp only[wA,↓Qc,simprocAttr,h,ta,wH,wB])
 all_goals exact W.done (Qk.ret rfl rfl ⟨_,rfl⟩)
theorem Q0k(l:List UInt8)(hl:l.length<=1000000):Fz Tryz.prog Qg 62 [.str l,.func (.func 18) [] [],.bool true] fun x=>∃n:Int,x= .int .i64 n:=by
 refine Qw Tryz.func62 rfl ?_;simp only[wA,↓Qc,simprocAttr,Tryz.ntmps62,ta,wH,wB,rangeV,Tryz.underlying9];refine W.ul ?_;refine W.loop (fun(pos:Nat) t H=>Yf [1,2,10] t 0=Q78 (.func (.func 18) [] []) (.bool true) (.ptr 0 10 0)/\H=[[(10,.siter l pos)]]) (fun pos=>l.length-pos) ?_ 0 ⟨rfl,rfl⟩;rintro pos t H ⟨ht,rfl⟩;refine⟨_,_,Ji (kt:=[1,2,10]) rfl rfl,?_⟩;rw[ht];simp only[Q78];by_cases h:pos<l.length
 . have w:=wide1 ⟨⟨l⟩⟩ pos;obtain⟨m,⟨b,rfl⟩,hm⟩:=(odd_fz (Utf8.decode ⟨⟨l⟩⟩ pos).1).op (by rfl) rfl;have hm1:∀s H,_:=fun s H=>hm 62 0 s H rfl;have h' :(decide (pos<l.length))=true:=Zum h;have eF:∀x y,Zp Tryz.prog .eql 4 x y (.bool false) (.bool true)=some (.bool false):=fun _ _=>rfl;have eT:∀x y,Zp Tryz.prog .eql 4 x y (.bool true) (.bool true)=some (.bool true):=fun _ _=>rfl;cases b
   . simp only[wA,↓Qc,simprocAttr,nextS,h,ta,wH,wB,hm1,eF];exact W.done ⟨_,⟨rfl,rfl⟩,by omega⟩
   . simp only[wA,↓Qc,simprocAttr,nextS,h,ta,wH,wB,hm1,eT];refine W.done ?_;simp only[wA,↓Qc,simprocAttr];exact W.done (Qk.ret rfl rfl ⟨_,rfl⟩)
 . simp only[wA,↓Qc,simprocAttr,nextS,h,ta,wH,wB];refine W.done ?_;simp only[wA,↓Qc,simprocAttr];exact W.done (Qk.ret rfl rfl ⟨_,rfl⟩)
theorem Qym(l:List UInt8)(hl:l.length<=1000000):Fz Tryz.prog Qg 38 [.str l,.func (.func 18) [] []] fun x=>∃n:Int,x= .int .i64 n:=by refine Qw Tryz.func38 rfl ?_;obtain⟨m,⟨n,rfl⟩,hm⟩:=(Q0k l hl).op (by rfl) rfl;have hm1:∀s H,_:=fun s H=>hm 38 0 s H rfl;simp only[wA,↓Qc,simprocAttr,Tryz.ntmps38,ta,wH,wB,hm1];exact W.done (Qk.ret rfl rfl ⟨_,rfl⟩)
theorem Qpu(l:List UInt8)(hl:l.length<=1000000):Fz Tryz.prog Qg 19 [.str l,.func (.func 18) [] []] fun x=>∃b,x= .bool b:=by refine Qw Tryz.func19 rfl ?_;obtain⟨m,⟨n,rfl⟩,hm⟩:=(Qym l hl).op (by rfl) rfl;have hm1:∀s H,_:=fun s H=>hm 19 0 s H rfl;simp only[wA,↓Qc,simprocAttr,Tryz.ntmps19,ta,wH,wB,hm1];exact W.done (Qk.ret rfl rfl ⟨_,rfl⟩)
theorem Qcm(l:List UInt8):∃e:Int,(l.length<=1000000->Fz Tryz.prog Qg 8 [.str l] fun x=>x= .int .i64 e)/\(e=0\/e=240)/\(e=0->l.length<=14/\0<l.length):=by
 by_cases hl:l.length<=1000000
 case neg=>exact⟨240,fun h=>absurd h hl,.inr rfl,fun h=>absurd h (by decide)⟩
 obtain⟨m,⟨b,rfl⟩,hm⟩:=(Qpu l hl).op (by rfl) rfl;have hm1:∀s H,_:=fun s H=>hm 8 0 s H rfl;refine⟨if(l==[]||decide ((14:Int)<l.length)||b) then 240 else 0,fun _=>?_,?_,?_⟩
 . refine Qw Tryz.func8 rfl ?_;simp only[wA,↓Qc,simprocAttr,Tryz.ntmps8,ta,wH,wB,hm1]
   repeat' ((first|refine W.guardF ?_ ?_|refine W.guardT ?_ ?_|refine W.guardXF ?_ ?_|refine W.guardXT ?_ ?_|refine W.ite ?_ ?_|refine W.opsK1 (by kernel_rfl) ?_)<;>intro h<;>simp only[wA,↓Qc,simprocAttr,h,ta,wH,wB,hm1])
   all_goals refine W.done (Qk.ret rfl rfl ?_)
   all_goals simp only[*,Zub,Bool.or_true,Bool.true_or,if_true,Zre,if_false]
   all_goals rfl
 . split
   . exact .inr rfl
   . exact .inl rfl
 . intro h;split at h
   . exact absurd h (by decide)
   . rename_i h1;simp only[Zs4,decide_eq_true_eq,not_or,Int.not_lt] at h1;refine⟨by omega,?_⟩;cases l with
     |nil=>exact absurd rfl h1.1.1
     |cons b l=>simp
noncomputable def Qe1(l:List UInt8):Int:=Classical.choose (Qcm l)
theorem Qf4(l:List UInt8)(hl:l.length<=1000000):Fz Tryz.prog Qg 8 [.str l] fun x=>x= .int .i64 (Qe1 l):=(Classical.choose_spec (Qcm l)).1 hl
theorem Qk6(l:List UInt8):Qe1 l=0\/Qe1 l=240:=(Classical.choose_spec (Qcm l)).2.1
theorem Ql1{l:List UInt8}(h:Qe1 l=0):l.length<=14/\0<l.length:=(Classical.choose_spec (Qcm l)).2.2 h
end Go.Proofs.YtidniacddkalaaaGreatDoor
namespace Go.Proofs.YtidniacddkalaaaGreatDoor
open Go.AM
attribute [local irreducible] U W
abbrev Xo:=List UInt8×Int
def Yi(l:List Xo):List V:=l.flatMap fun e=>[.str e.1,.int .i64 e.2]
theorem Qsv(e:Xo)(l:List Xo):Yi (e::l)=[.str e.1,.int .i64 e.2]++Yi l:=rfl
theorem Qyt(l m:List Xo):Yi (l++m)=Yi l++Yi m:=by simp[Yi]
theorem Qda:∀l:List Xo,(Yi l).length=l.length*2
 |[]=>rfl
 |e::l=>by
  rw[Qsv,Zsi,Qda l];simp only[Zrs,Zs9];omega
theorem Qir(q:Nat->Nat->Bool):∀l:List Xo,Qi q (Yi l)=false
 |[]=>rfl
 |e::l=>by
  have:=Qir q l;show Qi q (V.str e.1::V.int .i64 e.2::Yi l)=false;simp only[Qi,V.refs,this,Bool.or_self]
theorem Qls:∀l:List Xo,Qx (Yi l)=true
 |[]=>rfl
 |e::l=>by
  have:=Qls l;show Qx (V.str e.1::V.int .i64 e.2::Yi l)=true;simp only[Qx,V.pure,this,Zts]
theorem Qoj(g:Get)(n:Nat):∀l:List Xo,Qt (AM.frz g (n+1)) (Yi l)=some (Yi l)
 |[]=>rfl
 |e::l=>Qa rfl (Qa rfl (Qoj g n l))
theorem Qik:∀{l:List Xo} {i:Nat} (h:i<l.length),((Yi l).drop (i*2)).take 2=[.str l[i].1,.int .i64 l[i].2]
 |[],i,h=>absurd h (by simp)
 |e::l,0,h=>rfl
 |e::l,i+1,h=>by
  rw[show(i+1)*2=[V.str e.1,V.int .i64 e.2].length+i*2 by simp;omega,Qsv,<-Zsh,List.drop_left];exact Qik (l:=l) (i:=i) (by simp only[Zrs] at h;omega)
abbrev Qj4(v:V)(l:List Xo):Prop:=Q0 2 v (Yi l) l.length
theorem Q0p{l:List Xo}{i:Nat}(h:i<l.length)(g:Get):ldV Tryz.prog 46 g (.iptr (Yi l) (i*2))=some (.agg [.str l[i].1,.int .i64 l[i].2]):=by show Qn Tryz.prog 46 (Yi l) (i*2)=_;rw[rd46,if_pos (by rw[Qda];omega),Qik h]
theorem Q5t(C:AM.Call)(fn fr:Nat)(d:Option Nat)(H:Heap)(a b:List UInt8):
 callOp Qg C fn fr d 141 [.str a,.str b] H=some (.ret (.int .i64 (Lib.compareBytes a b)),H):=by
 have e:Qg.prim 141=some Yl:=rfl;simp only[callOp,e,Yl,bytesV,Zrb,wr]
theorem Ql4(a b:List UInt8):Fz Tryz.prog Qg 102 [.str a,.str b] fun x=>x= .int .i64 (Lib.compareBytes a b):=by refine Qw Tryz.func102 rfl ?_;have hc:∀d H,_:=fun d H=>Q5t (Qp Tryz.prog Qg) 102 0 d H a b;simp only[wA,↓Qc,simprocAttr,Tryz.ntmps102,wH,wB,hc];exact W.done (Qk.ret rfl rfl rfl)
theorem Qrd(a b:List UInt8):Fz Tryz.prog Qg 61 [.str a,.str b] fun x=>x= .int .i64 (Lib.compareBytes a b):=by refine Qw Tryz.func61 rfl ?_;obtain⟨m,rfl,hm⟩:=(Ql4 a b).op (by rfl) rfl;have hm1:∀s H,_:=fun s H=>hm 61 0 s H rfl;simp only[wA,↓Qc,simprocAttr,Tryz.ntmps61,wH,wB,hm1];exact W.done (Qk.ret rfl rfl rfl)
theorem Qsx(a:List UInt8)(n:Int)(b:List UInt8):Fz Tryz.prog Qg 60 [.agg [.str a,.int .i64 n],.str b] fun x=>x= .int .i64 (Lib.compareBytes a b):=by refine Qw Tryz.func60 rfl ?_;obtain⟨m,rfl,hm⟩:=(Qrd a b).op (by rfl) rfl;have hm1:∀s H,_:=fun s H=>hm 60 0 s H rfl;simp only[wA,↓Qc,simprocAttr,Tryz.ntmps60,ta,wH,wB,hm1];exact W.done (Qk.ret rfl rfl rfl)
def Qaw(l:List Xo)(s:List UInt8)(i:Nat):Int:=match l[i]? with
 |some e=>Lib.compareBytes e.1 s
 |none=>0
set_option maxHeartbeats 4000000 in
theorem Q87(v:V)(ls:List Xo)(hv:Qj4 v ls)(hl:ls.length<=1000000)(s:List UInt8):
 Fz Tryz.prog Qg 59 [v,.str s,.func (.func 60) [] []] fun y=>y= .tuple [.int .i64 (bs (Qaw ls s) ls.length),.bool (Qb0 (Qaw ls s) ls.length)]:=by
 refine Qw Tryz.func59 rfl ?_;have len:=hv.len Tryz.underlying39;have sc:=Ze hv;simp only[wA,↓Qc,simprocAttr,Tryz.ntmps59,ta,wH,wB,len];refine W.ul ?_;refine W.loopS (kt:=[0,1,2,8,9,10]) rfl (fun a:Nat×Nat=>Zbu v (.str s) (.func (.func 60) [] []) (.int .i64 ls.length) (.int .i64 a.1) (.int .i64 a.2)) (fun _=>[[]])
  (fun a=>a.1<=a.2/\a.2<=ls.length/\Qe3 (Qaw ls s) (a.2-a.1) a.1 a.2=bs (Qaw ls s) ls.length) (fun a=>a.2-a.1) ?_ (0,ls.length) ⟨by simp,by simp,rfl⟩ rfl rfl
 rintro⟨i,j⟩ ⟨hij,hj,hR⟩;simp only at hij hj hR;simp only[Zbu];by_cases h:i<j
 . have c1:decide ((i:Int)<j)=true:=Zum (by omega);have wa:(IntKind.i64).wrap ((i:Int)+j)=((i+j:Nat):Int):=by rw[wrap_i64]<;>omega
   have hm:(i+j)/2<ls.length:=by omega
   have at1:=hv.at (k:= .i64) Tryz.underlying39 Ql8 (by decide) (i:=(((i+j)/2:Nat):Int)) (by omega) (by omega);have ld' :∀g,ldV Tryz.prog 46 g (.iptr (Yi ls) ((((i+j)/2:Nat):Int).toNat*2))=_:=fun g=>Q0p hm g;have cv1:=fun g=>Qvc g (i+j) (by omega);have cv2:=fun g=>Qt4 g ((i+j)/2) (by omega);have sh:∀p q,Zp Tryz.prog .shr 160 p q (.int .u64 ((i+j:Nat):Int)) (.int .u64 1)=_:=fun p q=>Q0q (i+j);obtain⟨m,rfl,hm2⟩:=(Qsx ls[(i+j)/2].1 ls[(i+j)/2].2 s).op (by rfl) rfl;have hm3:∀s H,_:=fun s H=>hm2 59 0 s H rfl;have eL:Qaw ls s ((i+j)/2)=Lib.compareBytes ls[(i+j)/2].1 s:=by simp only[Qaw,Zra hm]
   have w1:(IntKind.i64).wrap ((((i+j)/2:Nat):Int)+1)=(((i+j)/2+1:Nat):Int):=by rw[wrap_i64]<;>omega
   rw[<-eL] at hm3;simp only[wA,↓Qc,simprocAttr,c1,wa,at1,ld',cv1,cv2,sh,hm3,ta,wH,wB];refine W.ite ?_ ?_<;>intro h2<;>simp only[wA,↓Qc,simprocAttr,ta,wH,wB,w1]
   . exact W.done ⟨((i+j)/2+1,j),rfl,rfl,⟨by simp only;omega,hj,by rw[<-hR,Q12 h h2]⟩,by simp only;omega⟩
   . exact W.done ⟨(i,(i+j)/2),rfl,rfl,⟨by simp only;omega,by simp only;omega,by rw[<-hR,Q2d h h2]⟩,by simp only;omega⟩
 . have c1:decide ((i:Int)<j)=false:=Zun (by omega);have e:i=j:=by omega
   subst e;have hi:i=bs (Qaw ls s) ls.length:=by rw[<-hR,Zt5];rfl
   have key:Qb0 (Qaw ls s) ls.length=(decide (i<ls.length)&&decide (Qaw ls s i=0)):=by rw[Qb0,<-hi]
   rw[key,<-hi];simp only[wA,↓Qc,simprocAttr,c1];refine W.done ?_;by_cases h2:i<ls.length
   . have c2:decide ((i:Int)<ls.length)=true:=Zum (by omega);have at1:=hv.at (k:= .i64) Tryz.underlying39 Ql8 (by decide) (i:=(i:Int)) (by omega) (by omega);have ld' :∀g,ldV Tryz.prog 46 g (.iptr (Yi ls) ((i:Int).toNat*2))=_:=fun g=>Q0p h2 g;obtain⟨m,rfl,hm2⟩:=(Qsx ls[i].1 ls[i].2 s).op (by rfl) rfl;have hm3:∀s H,_:=fun s H=>hm2 59 0 s H rfl;have eL:Qaw ls s i=Lib.compareBytes ls[i].1 s:=by simp only[Qaw,Zra h2]
     rw[<-eL] at hm3;have e0:(Qaw ls s i==0)=decide (Qaw ls s i=0):=rfl;simp only[wA,↓Qc,simprocAttr,c2,at1,ld',hm3,e0,ta,wH,wB];rw[Zum h2,Zsy];exact W.done (Qk.ret rfl rfl rfl)
   . have c2:decide ((i:Int)<ls.length)=false:=Zun (by omega);simp only[wA,↓Qc,simprocAttr,c2,ta,wH,wB];rw[Zun h2,Zt8];exact W.done (Qk.ret rfl rfl rfl)
theorem Qzn(v:V)(ls:List Xo)(hv:Qj4 v ls)(hl:ls.length<=1000000)(s:List UInt8):
 Fz Tryz.prog Qg 37 [v,.str s] fun y=>y= .tuple [.int .i64 (bs (Qaw ls s) ls.length),.bool (Qb0 (Qaw ls s) ls.length)]:=by
 refine Qw Tryz.func37 rfl ?_;have sc:=Ze hv;obtain⟨m,rfl,hm⟩:=(Q87 v ls hv hl s).op (by rfl) (Qa (hv.frz _) (Qa rfl (Qa rfl rfl)));have hm1:∀s H,_:=fun s H=>hm 37 0 s H rfl;simp only[wA,↓Qc,simprocAttr,Tryz.ntmps37,ta,wH,wB,hm1];exact W.done (Qk.ret rfl rfl rfl)
end Go.Proofs.YtidniacddkalaaaGreatDoor
namespace Go.Proofs.YtidniacddkalaaaGreatDoor
open Go.AM
attribute [local irreducible] U W
def Qbj(x:Int):UInt8:=UInt8.ofNat (x%256).toNat
theorem Q35(g:Get)(x:Int):convertV Tryz.prog g 3 5 (.int .i64 x)=some (.val (.int .u8 ((Qbj x).toNat:Nat)) none):=by
 have w:(IntKind.u8).wrap x=(((Qbj x).toNat:Nat):Int):=by rw[IntKind.wrap_u8,Qbj,UInt8.toNat_ofNat'];omega
 simp only[convertV,Tryz.underlying3,Tryz.underlying5,w]
section
variable {mt : Nat -> Bool} {fr : Nat} {g : Get} {dst : Option Nat} {f s n : Nat} {b : List UInt8}
theorem app_gb{x:V}{l:List UInt8}{m:Nat}(hx:Ql g 1 x=some (Qb l,m))(hm:0<m)(hn:n+m<=1048576)(hg:g f s=some (.grow n)):
 Qq Tryz.prog mt fr g dst 26 26 (.gS f s (Qb b) n 1) x=some (.val (.gS f s (Qb (b++l)) (n+m) 1) (some (f,s,.grow (n+m)))):=by
 rw[Qa2 Tryz.underlying26 sz5 Qcp zc5 rfl Tryz.underlying26 hx hm (Jj (by omega) (by omega)) (Qc2 (Bw _)) (Ja _) hg];simp only[Qb,Zua]
theorem Q8s{l:List UInt8}(hm:0<l.length)(hn:n+l.length<=1048576)(hg:g f s=some (.grow n)):
 Qq Tryz.prog mt fr g dst 26 9 (.gS f s (Qb b) n 1) (.str l)=some (.val (.gS f s (Qb (b++l)) (n+l.length) 1) (some (f,s,.grow (n+l.length)))):=by
 obtain⟨m,hm'⟩:∃m,l.length=m+1:=⟨l.length-1,by omega⟩;have z1:zeroCells Tryz.prog 5=some [.int .u8 0]:=zc5;have r1:Jl (n+(m+1)) 1=true:=Jj (by omega) (by omega);have asr:Z3 Tryz.prog g 9 1 1 [.int .u8 0] (.str l)=some (Qb l,m+1):=by simp only[Z3,Tryz.underlying9,if_true,hm']
 simp only[Qq,Tryz.underlying26,sz5,Qcp,z1,asr,appendTo,r1,Ja,hg,hm',and_self,if_true];rw[if_pos (show[V.int .u8 0].length=1 from rfl)];simp only[Qb,Zua]
theorem Q1b{m:Nat}(hn:n+(m+1)<=1048576)(hg:g f s=some (.grow n)):
 Qq Tryz.prog mt fr g dst 26 3 (.gS f s (Qb b) n 1) (.int .i64 ((m+1:Nat):Int))=some (.val (.gS f s (Qb (b++zB (m+1))) (n+(m+1)) 1) (some (f,s,.grow (n+(m+1))))):=by
 have z1:zeroCells Tryz.prog 5=some [.int .u8 0]:=zc5;have r1:Jl (n+(m+1)) 1=true:=Jj (by omega) (by omega);have r2:Jl (m+1) 1=true:=Jj (by omega) (by omega);have asr:Z3 Tryz.prog g 3 1 1 [.int .u8 0] (.int .i64 ((m+1:Nat):Int))=some (Qb (zB (m+1)),m+1):=by simp only[Z3,Tryz.underlying3];rw[if_pos ⟨by omega,by simpa using r2⟩,<-Qip];rfl
 simp only[Qq,Tryz.underlying26,sz5,Qcp,z1,asr,appendTo,r1,Ja,hg,and_self,if_true];rw[if_pos (show[V.int .u8 0].length=1 from rfl)];simp only[Qb,Zua]
theorem Qvo(v:V)(hv:Qn3 v=true):Qq Tryz.prog mt fr g dst 26 3 v (.int .i64 0)=some (.val v none):=by have z1:zeroCells Tryz.prog 5=some [.int .u8 0]:=zc5;have asr:Z3 Tryz.prog g 3 1 1 [.int .u8 0] (.int .i64 0)=some ([],0):=rfl;simp only[Qq,Tryz.underlying26,sz5,Qcp,z1,asr,hv,if_true];rw[if_pos (show[V.int .u8 0].length=1 from rfl)]
end
def blkI(j:Nat)(v:V)(F:AM.Frame):Prop:=(j=0/\v= .nS/\F=[])\/∃b:List UInt8,0<j/\b.length=16*j/\v= .gS 0 21 (Qb b) (16*j) 1/\∃c,Qi (fun _ _=>true) c=false/\F=[(5,.cells c),(21,.grow (16*j))]
theorem Qys(v:V)(ls:List Xo)(hv:Qj4 v ls)(hl:ls.length<=16)(hn:∀e∈ls,e.1.length<=14/\0<e.1.length):
 CW Tryz.prog Qg 36 [v] [] fun r H=>(ls.length=0/\r= .ret .nS)\/∃b:List UInt8,0<ls.length/\b.length=16*ls.length/\r= .ret (.gS 0 21 (Qb b) (16*ls.length) 1)/\Qd H 0 21=some (.grow (16*ls.length)):=by
 refine Kb Tryz.func36 rfl ?_;have len:=hv.len Tryz.underlying39;have sc:=Ze hv;simp only[wA,↓Qc,simprocAttr,Tryz.ntmps36,ta,wH,wB,len];refine W.ul ?_;refine W.loop (fun(j:Nat) t H=>∃w F,Yf [3,6,7,8] t 0=Quf w v (.int .i64 ls.length) (.int .i64 j)/\j<=ls.length/\blkI j w F/\H=[F]) (fun j=>ls.length-j) ?_ 0 ⟨_,_,rfl,Zt2 _,.inl ⟨rfl,rfl,rfl⟩,rfl⟩;rintro j t H ⟨w,F,ht,hj,hI,rfl⟩;have key:∃F',forget Qg 36 0 3 t [F]=some (Yf [3,6,7,8] t 0,[F'])/\((j=0/\w= .nS/\F' =[])\/∃b:List UInt8,0<j/\b.length=16*j/\w= .gS 0 21 (Qb b) (16*j) 1/\F' =[(21,.grow (16*j))]):=by
  have nr:∀q,v.refs q=false:=fun q=>hv.noRefs q;rcases hI with⟨rfl,rfl,rfl⟩|⟨b,h0,hb,rfl,c,hc,rfl⟩
  . refine⟨[],?_,.inl ⟨rfl,rfl,rfl⟩⟩;rw[Jh (kt:=[3,6,7,8]) (ds:=[5]) rfl _ _ rfl]
    . rfl
    . rw[ht];simp only[Quf,Qi,V.refs,nr,Bool.or_self]
    . rfl
  . refine⟨[(21,.grow (16*j))],?_,.inr ⟨b,h0,hb,rfl,rfl⟩⟩;rw[Jh (kt:=[3,6,7,8]) (ds:=[5]) rfl _ _ rfl]
    . rfl
    . rw[ht];simp only[Quf,Qi,V.refs,nr,Qcz _ (Bw b),Bool.or_self,Zub,Zs2];rfl
    . rfl
 clear hI;obtain⟨F',hf,hI⟩:=key;refine⟨_,_,hf,?_⟩;rw[ht];simp only[Quf];have mt21:Qg.mt 36 21=false:=rfl;by_cases h:j<ls.length
 . have c1:decide ((j:Int)<ls.length)=true:=Zum (by omega);have w1:(IntKind.i64).wrap ((j:Int)+1)=((j+1:Nat):Int):=by rw[wrap_i64]<;>omega
   have at1:=hv.at (k:= .i64) Tryz.underlying39 Ql8 (by decide) (i:=(j:Int)) (by omega) (by omega);have ld' :∀g,ldV Tryz.prog 46 g (.iptr (Yi ls) ((j:Int).toNat*2))=_:=fun g=>Q0p h g;obtain⟨hn1,hn2⟩:=hn _ (Ztp h);generalize ls[j]=e at*;obtain⟨nm,ob⟩:=e;simp only at hn1 hn2 ld';have cv:=fun g=>Q35 g ob;have cv2:=fun g=>Q35 g (nm.length:Int);have w2:(IntKind.i64).wrap (14-(nm.length:Int))=((14-nm.length:Nat):Int):=by rw[wrap_i64]<;>omega
   have sl2:∀g,Ql g 1 (.iS [.int .u8 ((Qbj ob).toNat:Nat),.int .u8 ((Qbj (nm.length:Int)).toNat:Nat)] 2 true)=some (Qb [Qbj ob,Qbj (nm.length:Int)],2):=fun g=>by simp[Ql,Qb]
   have mt20:Qg.mt 36 20=false:=rfl;obtain⟨B,hB⟩:∃B,B=[Qbj ob,Qbj (nm.length:Int)]:=⟨_,rfl⟩;have hB2:B.length=2:=by rw[hB];rfl
   rw[<-hB] at sl2;clear hB;obtain⟨k,hk⟩:∃k,k=14-nm.length:=⟨_,rfl⟩;rw[<-hk] at w2;rcases hI with⟨hj0,rfl,rfl⟩|⟨b,h0,hb,rfl,rfl⟩
   . have a1:Qq Tryz.prog (Qg.mt 36) 0 (Qd [[(5,.cells [.str nm,.int .i64 ob])]]) (some 21) 26 26 .nS (.iS [.int .u8 ((Qbj ob).toNat:Nat),.int .u8 ((Qbj (nm.length:Int)).toNat:Nat)] 2 true)=some (.val (.gS 0 21 (Qb B) 2 1) (some (0,21,.grow 2))):=by
      rw[Qbq Tryz.underlying26 sz5 Qcp zc5 rfl Tryz.underlying26 (sl2 _) (by decide) rfl,Xc mt21 (Qc2 (Bw _)) rfl]
     have a2:∀mt dst,Qq Tryz.prog mt 0 (Qd [[(5,.cells [.str nm,.int .i64 ob]),(21,.grow 2)]]) dst 26 9 (.gS 0 21 (Qb B) 2 1) (.str nm)=_:=fun mt dst=>Q8s hn2 (by omega) rfl;have a3:∀mt dst,Qq Tryz.prog mt 0 (Qd [[(5,.cells [.str nm,.int .i64 ob]),(21,.grow (2+nm.length))]]) dst 26 3 (.gS 0 21 (Qb (B++nm)) (2+nm.length) 1) (.int .i64 k)=some (.val (.gS 0 21 (Qb (B++nm++zB k)) (2+nm.length+k) 1) (if k=0 then none else some (0,21,.grow (2+nm.length+k)))):=by
      intro mt dst;by_cases k0:k=0
      . rw[if_pos k0,k0];refine(Qvo (.gS 0 21 (Qb (B++nm)) (2+nm.length) 1) rfl).trans ?_;simp[zB]
      . obtain⟨m,rfl⟩:∃m,k=m+1:=⟨k-1,by omega⟩;rw[Q1b (by omega) rfl,if_neg k0]
     have e:2+nm.length+k=16*(j+1):=by omega
     have fin:blkI (j+1) (.gS 0 21 (Qb (B++nm++zB k)) (2+nm.length+k) 1) [(5,.cells [.str nm,.int .i64 ob]),(21,.grow (2+nm.length+k))]:=
      .inr ⟨B++nm++zB k,by omega,by simp only[Zsi,Qgc];omega,by rw[e],[.str nm,.int .i64 ob],rfl,by rw[e]⟩
     by_cases k0:k=0
     . simp only[if_pos k0] at a3;rw[show[(5,O.cells [V.str nm,.int .i64 ob]),(21,.grow (2+nm.length+k))]=[(5,O.cells [V.str nm,.int .i64 ob]),(21,.grow (2+nm.length))] by rw[k0,Ztw]] at fin;simp only[wA,↓Qc,simprocAttr,c1,w1,at1,ld',cv,cv2,w2,ta,wH,wB,rd46,Q2,a1,a2,a3,mt20,Tryz.underlying26,sz5,zc5,Zrs,Zs9];exact W.done ⟨j+1,⟨_,_,rfl,by omega,fin,rfl⟩,by omega⟩
     . simp only[if_neg k0] at a3;simp only[wA,↓Qc,simprocAttr,c1,w1,at1,ld',cv,cv2,w2,ta,wH,wB,rd46,Q2,a1,a2,a3,mt20,Tryz.underlying26,sz5,zc5,Zrs,Zs9];exact W.done ⟨j+1,⟨_,_,rfl,by omega,fin,rfl⟩,by omega⟩
   . have a1:∀mt dst,Qq Tryz.prog mt 0 (Qd [[(5,.cells [.str nm,.int .i64 ob]),(21,.grow (16*j))]]) dst 26 26 (.gS 0 21 (Qb b) (16*j) 1) (.iS [.int .u8 ((Qbj ob).toNat:Nat),.int .u8 ((Qbj (nm.length:Int)).toNat:Nat)] 2 true)=_:=fun mt dst=>app_gb (sl2 _) (by decide) (by omega) rfl;have a2:∀mt dst,Qq Tryz.prog mt 0 (Qd [[(5,.cells [.str nm,.int .i64 ob]),(21,.grow (16*j+2))]]) dst 26 9 (.gS 0 21 (Qb (b++B)) (16*j+2) 1) (.str nm)=_:=fun mt dst=>Q8s hn2 (by omega) rfl;have a3:∀mt dst,Qq Tryz.prog mt 0 (Qd [[(5,.cells [.str nm,.int .i64 ob]),(21,.grow (16*j+2+nm.length))]]) dst 26 3 (.gS 0 21 (Qb (b++B++nm)) (16*j+2+nm.length) 1) (.int .i64 k)=some (.val (.gS 0 21 (Qb (b++B++nm++zB k)) (16*j+2+nm.length+k) 1) (if k=0 then none else some (0,21,.grow (16*j+2+nm.length+k)))):=by
      intro mt dst;by_cases k0:k=0
      . rw[if_pos k0,k0];refine(Qvo (.gS 0 21 (Qb (b++B++nm)) (16*j+2+nm.length) 1) rfl).trans ?_;simp[zB]
      . obtain⟨m,rfl⟩:∃m,k=m+1:=⟨k-1,by omega⟩;rw[Q1b (by omega) rfl,if_neg k0]
     have e:16*j+2+nm.length+k=16*(j+1):=by omega
     have fin:blkI (j+1) (.gS 0 21 (Qb (b++B++nm++zB k)) (16*j+2+nm.length+k) 1) [(5,.cells [.str nm,.int .i64 ob]),(21,.grow (16*j+2+nm.length+k))]:=
      .inr ⟨b++B++nm++zB k,by omega,by simp only[Zsi,Qgc];omega,by rw[e],[.str nm,.int .i64 ob],rfl,by rw[e]⟩
     by_cases k0:k=0
     . simp only[if_pos k0] at a3;rw[show[(5,O.cells [V.str nm,.int .i64 ob]),(21,.grow (16*j+2+nm.length+k))]=[(5,O.cells [V.str nm,.int .i64 ob]),(21,.grow (16*j+2+nm.length))] by rw[k0,Ztw]] at fin;simp only[wA,↓Qc,simprocAttr,c1,w1,at1,ld',cv,cv2,w2,ta,wH,wB,rd46,Q2,a1,a2,a3,mt20,Tryz.underlying26,sz5,zc5,Zrs,Zs9];exact W.done ⟨j+1,⟨_,_,rfl,by omega,fin,rfl⟩,by omega⟩
     . simp only[if_neg k0] at a3;simp only[wA,↓Qc,simprocAttr,c1,w1,at1,ld',cv,cv2,w2,ta,wH,wB,rd46,Q2,a1,a2,a3,mt20,Tryz.underlying26,sz5,zc5,Zrs,Zs9];exact W.done ⟨j+1,⟨_,_,rfl,by omega,fin,rfl⟩,by omega⟩
 . have c1:decide ((j:Int)<ls.length)=false:=Zun (by omega);have e:j=ls.length:=by omega
   rcases hI with⟨hj0,rfl,rfl⟩|⟨b,h0,hb,rfl,rfl⟩
   . simp only[wA,↓Qc,simprocAttr,c1];refine W.done ?_;simp only[wA,↓Qc,simprocAttr];exact W.done (End.ret (v:= .nS) rfl (.inl ⟨by omega,rfl⟩))
   . simp only[wA,↓Qc,simprocAttr,c1];refine W.done ?_;simp only[wA,↓Qc,simprocAttr];refine W.done (End.ret (v:= .gS 0 21 (Qb b) (16*j) 1) rfl (.inr ⟨b,by omega,by omega,by rw[e],?_⟩));rw[K3 rfl,<-e];rfl
end Go.Proofs.YtidniacddkalaaaGreatDoor
end
