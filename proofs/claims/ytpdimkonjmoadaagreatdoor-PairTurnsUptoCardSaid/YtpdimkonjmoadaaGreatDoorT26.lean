/- This file holds in one the texts TW3, TW4, PR1, PR2; each says at its head what it proves. -/
import Derived.Test.YtpdimkonjmoadaaGreatDoorT18
import Derived.Test.YtpdimkonjmoadaaGreatDoorT24
import Derived.Test.YtpdimkonjmoadaaGreatDoorT25
set_option linter.unusedSimpArgs false
set_option linter.unusedVariables false
section
set_option maxRecDepth 100000
namespace Go.Proofs.YtpdimkonjmoadaaGreatDoor
open Go.AM
attribute [local irreducible] U W
structure Q32(x:Yj):Prop where
 rows:(Z8 x.blocks).sum<=1048576
 blocks:x.blocks.length<1100000
 waits:x.waits.length<1100000
 wdata:∀w∈x.waits,w.2.length<=1100000
 space:x.space.length<=1100000
 own:x.p.own.length<=1100000
 lines:x.p.lines.length<=1100000
 changes:x.p.changes.length<=1100000
 keys:x.p.keys.length<=1100000
 loaded:x.p.loaded.length<=1100000
 dead:∀l∈x.p.lines,l.dead.length<=1100000
 data:∀d∈x.datas,d.length<=1100000
 keyl:∀k∈x.p.keys,k.length<=1100000
 loadedl:∀k∈x.p.loaded,k.length<=1100000
theorem Qsh{bv wv sv:V}{bl wl sp}(h:Qf5 bv wv sv bl wl sp)(hs1:(Z8 bl).sum<=1048576)(hn:bl.length<1100000)(hm:wl.length<1100000)(hd:∀w∈wl,w.2.length<=1100000)(hs:sp.length<=1100000)(e c:Int):
 Fz Tp Qf 47 [Qda bv wv sv e c] fun r=>∃bv' wv' sv',r=Qda bv' wv' sv' e c/\Kf bv' bl/\Xh wv' wl/\Qk sv' sp:=by
 refine Zp Tryz.func47 rfl ?_;obtain⟨m,⟨bv',wv',rfl,hb,hw⟩,hm⟩:=(Q7t bv wv bl wl h.blocks h.waits hs1 hn hm hd).op (by rfl) (Qa (Qgv h.blocks h.waits _) rfl);have hm1:∀s H,_:=fun s H=>hm 47 0 s H rfl;obtain⟨sv',hsv,hm⟩:=(Qfc sv sp h.space hs).op (by rfl) (Qa (h.space.frz _) rfl);have hm2:∀s H,_:=fun s H=>hm 47 0 s H rfl;obtain⟨_,_,h1⟩:=id h.blocks;obtain⟨_,_,h2⟩:=id h.waits;obtain⟨_,_,h3⟩:=id hb;obtain⟨_,_,h4⟩:=id hw;have t1:=Zo h1;have t2:=Zo h2;have t3:=Zo h.space;have t4:=Zo h3;have t5:=Zo h4;have t6:=Zo hsv;have t7:=Ko hsv;have t8:=Ko h3;have t9:=Ko h4;simp only[wX,↓Qc,simprocAttr,Tryz.ntmps47,hm1,hm2,t1,t2,t3,t4,t5,t6,t7,t8,t9];refine W.opsT (by kernel_rfl) ?_;simp only[wX,↓Qc,simprocAttr,t1,t2,t3,t4,t5,t6,t7,t8,t9];refine W.done (Zc.ret (v:=Qda bv' wv' sv' e c) ?_ ?_ ⟨_,_,_,rfl,hb,hw,hsv⟩)
 . exact Xw rfl rfl rfl (by rw[rd58];rfl)
 . exact Qe5 (Qf5.mk hb hw hsv h.b1 h.w1 h.w0) e c _
theorem Qae.frzI{fr d esz n:Nat}{cs:List V}{w:V}{o:O}{g:Get}{m:Nat}(h:Qae fr d esz n cs w o)(hl:cs.length=n*esz)(hg:w≠ .nS->g fr d=some o)(hc:Qx (AM.frz g (m+1)) cs=some cs):∃w',AM.frz g (m+2) w=some w' /\Qv esz w' cs n:=by
 rcases id h with⟨rfl,rfl,rfl,rfl⟩|⟨cap,rfl,rfl⟩
 . exact⟨.nS,rfl,Qv.nil⟩
 . exact h.frz hl (hg (by intro h;cases h)) hc
theorem Q64{bv wv sv mv lw kw ow cw:V}{ol oc ok oo:O}{x:Yj}(q1:Kf bv x.blocks)(q2:Xh wv x.waits)(q3:Qk sv x.space)(q4:Ke mv x.p.own)(q5:Zda 0 x lw kw ow cw ol oc ok oo){H:Heap}
 (g1:Qd H 0 18=some ol)(g2:Qd H 0 21=some oc)(g3:Qd H 0 65=some ok)(g4:Qd H 0 68=some oo):
 ∃lv kv ov cv,frz (Qd (Bs 0 (.agg (Qy bv wv sv mv lw kw ow cw x.p)) H)) depth (.agg (Qy bv wv sv mv lw kw ow cw x.p))=some (.agg (Qy bv wv sv mv lv kv ov cv x.p))/\Yh bv wv sv mv lv kv ov cv x:=by
 generalize hG:Qd (Bs 0 (.agg (Qy bv wv sv mv lw kw ow cw x.p)) H)=g;obtain⟨c1,a1,b1⟩:=q5.lines;obtain⟨c2,a2,b2⟩:=q5.changes;obtain⟨c3,a3,b3⟩:=q5.keys;obtain⟨c4,a4,b4⟩:=q5.loaded;have keep:∀w∈[lw,kw,ow,cw],w.refs (fun f _=>Nat.ble 0 f)=true->g=Qd H:=fun w hw hr=>by
  rw[<-hG,Z2];have:∀l:List V,w∈l->Qh (fun f _=>Nat.ble 0 f) l=true:=by
   intro l
   induction l with
   |nil=>intro h;cases h
   |cons y l ih=>
    intro h;rcases Zpy.1 h with rfl|h
    . simp only[Qh,hr,Bool.true_or]
    . simp only[Qh,ih h,Bool.or_true]
  refine this _ ?_;simp only[Qy,Zpy] at hw⊢;rcases hw with h|h|h|h|h
  . simp[h]
  . simp[h]
  . simp[h]
  . simp[h]
  . cases h
 have rf:∀{d esz n:Nat} {cs:List V} {w:V} {o:O},Qae 0 d esz n cs w o->w≠ .nS->w.refs (fun f _=>Nat.ble 0 f)=true:=fun h hn=>by
  rcases h with⟨_,_,rfl,_⟩|⟨cap,rfl,_⟩
  . exact absurd rfl hn
  . rfl
 obtain⟨w1,e1,f1⟩:=a1.frzI (g:=g) (m:=9) (Qqe b1) (fun h=>by rw[keep lw (by simp) (rf a1 h)];exact g1) (Qqi b1);obtain⟨w2,e2,f2⟩:=a2.frzI (g:=g) (m:=9) (Quv b2) (fun h=>by rw[keep cw (by simp) (rf a2 h)];exact g2) (Qll b2);obtain⟨w3,e3,f3⟩:=a3.frzI (g:=g) (m:=9) (Qjv b3) (fun h=>by rw[keep kw (by simp) (rf a3 h)];exact g3) (Qj2 b3);obtain⟨w4,e4,f4⟩:=a4.frzI (g:=g) (m:=9) (Qjv b4) (fun h=>by rw[keep ow (by simp) (rf a4 h)];exact g4) (Qj2 b4);refine⟨w1,w3,w4,w2,?_,⟨q1,q2,q3,q4,⟨c1,b1,f1⟩,⟨c3,b3,f3⟩,⟨c4,b4,f4⟩,⟨c2,b2,f2⟩⟩⟩;obtain⟨_,_,h1⟩:=q1;obtain⟨_,_,h2⟩:=q2;show Option.map V.agg (Qx (AM.frz _ 11) (Qy bv wv sv mv lw kw ow cw x.p))=_;have e:Qx (AM.frz g 11) (Qy bv wv sv mv lw kw ow cw x.p)=some (Qy bv wv sv mv w1 w3 w4 w2 x.p):=by simp only[Qy];exact Qa (h1.frz 10) (Qa (h2.frz 10) (Qa (q3.frz 10) (Qa rfl (Qa rfl (Qa rfl (Qa rfl (Qa rfl (Qa rfl (Qa rfl (Qa rfl (Qa (Qv.frz q4 10) (Qa e1 (Qa e3 (Qa e4 (Qa e2 (Qa rfl (Qa rfl (Qa rfl rfl))))))))))))))))))
 rw[e];rfl
section
variable {bv wv sv mv lv kv ov cv : V} {x : Yj}
set_option maxHeartbeats 8000000 in
theorem Qk8(h:Yh bv wv sv mv lv kv ov cv x)(f:x.Fits)(sm:Q32 x):Fz Tp Qf 22 [.agg (Qy bv wv sv mv lv kv ov cv x.p)] fun r=>∃bv' wv' sv' mv' lv' kv' ov' cv',r= .agg (Qy bv' wv' sv' mv' lv' kv' ov' cv' x.p)/\Yh bv' wv' sv' mv' lv' kv' ov' cv' x:=by
 refine Fz.of_cw (Ye Tryz.func22 rfl ?_);obtain⟨m,⟨bv',wv',sv',rfl,hb,hw,hs⟩,hm⟩:=(Qsh (Qd2 h f) sm.rows sm.blocks sm.waits sm.wdata sm.space x.p.epoch x.p.count).op (by rfl) (Qa (Qe5 (Qd2 h f) _ _ _) rfl);have hm1:∀s H,_:=fun s H=>hm 22 0 s H rfl;obtain⟨mv',hmv,hm⟩:=(Qv7 mv x.p.own h.own sm.own).op (by rfl) (Qa (h.own.frz _) rfl);have hm2:∀s H,_:=fun s H=>hm 22 0 s H rfl;obtain⟨s1,s2,s3,s4,s5,s6,s7,s8⟩:=Qbr h;obtain⟨lcs,hlc,hlv⟩:=id h.lines;obtain⟨ccs,hcc,hcv⟩:=id h.changes;obtain⟨kcs,hkc,hkv⟩:=id h.keys;obtain⟨ocs,hoc,hov⟩:=id h.loaded;obtain⟨_,_,b1⟩:=id hb;obtain⟨_,_,b2⟩:=id hw;have t1:=Zo b1;have t2:=Zo b2;have t3:=Zo hs;have t4:=Zo hmv;have u1:=Ko b1;have u2:=Ko b2;have u3:=Ko hs;have u4:=Ko hmv;obtain⟨pc1,hpc1⟩:∃p,p=[bv',wv',sv',.int .u32 x.p.epoch,.int .u32 x.p.count,.int .u32 x.p.gen,.int .i64 x.p.root.at_,.int .u32 x.p.root.birth,.int .u32 x.p.root.iv,.int .u32 x.p.root.tag,.int .u32 x.p.root.sum,mv,lv,kv,ov,cv,.int .i64 x.p.logged,.int .i64 x.p.nextId,.int .u32 x.p.nextGuid]:=⟨_,rfl⟩;simp only[Qy,Qda] at hm1⊢;simp only[wX,↓Qc,simprocAttr,Tryz.ntmps22,hm1,hm2,s1,s2,s3,s4,s5,s6,s7,s8,t1,t2,t3,t4,u1,u2,u3,u4];obtain⟨lw,ol,hcl,hol,hol2⟩:=clL_op lv lcs _ hlv sm.lines hlc.pure.2 hlc.pure.1 (fn:=22) (fr:=0) (d:=18) (H:=[[(1,.cells pc1),(2,.cells Qgh)]]) rfl rfl;obtain⟨cw,oc,hcc2,hoc2,hoc3⟩:=clC_op cv ccs _ hcv sm.changes hcc.pure.2 hcc.pure.1 (fn:=22) (fr:=0) (d:=21) (H:=[[(1,.cells pc1),(2,.cells Qgh),(18,ol)]]) rfl rfl;simp only[wH,Qgh,hpc1,simprocAttr,if_true,if_false] at hcl hcc2;have v1:=hol.sc;have v2:=hoc2.sc;have v3:=hol.cells;have v4:=hoc2.cells;have ll:=hol.len Zu5;have lc:=hoc2.len Zu7;simp only[wX,↓Qc,simprocAttr,hm2,hcl,hcc2,s1,s2,s3,s4,s5,s6,s7,s8,t1,t2,t3,t4,u1,u2,u3,u4,ll,lc,v1,v2,v3,v4];refine W.opsT (by
  rcases hol2 with⟨rfl,n0,rfl,rfl,rfl⟩|⟨f0,cap,rfl,rfl,rfl⟩
  all_goals rcases hoc3 with⟨rfl,n1,rfl,rfl,rfl⟩|⟨f1,cap1,rfl,rfl,rfl⟩
  all_goals kernel_rfl) ?_
 simp only[wA,↓Qc,simprocAttr,ta,wH,wZ,s1,s2,s3,s4,s5,s6,s7,s8,t1,t2,t3,t4,u1,u2,u3,u4,ll,lc,v1,v2,v3,v4];refine W.ul ?_;refine W.loop (fun(i:Nat) t H=>∃cs o,Qae 0 18 13 x.p.lines.length cs lw o/\LinesC cs x.p.lines/\Jj [1,2,27,28] t 0=Q8c (.ptr 0 1 0) (.ptr 0 2 0) (.int .i64 x.p.lines.length) (.int .i64 i)/\i<=x.p.lines.length/\
  H=[[(1,.cells (Qy bv' wv' sv' mv' lw kv ov cw x.p)),(2,.cells Qgh),(18,o),(21,oc)]]) (fun i=>x.p.lines.length-i) ?_ 0 ⟨lcs,ol,hol,hlc,rfl,Zr9 _,rfl⟩
 rintro i t H ⟨cs,o,hos,hcs,ht,hi,rfl⟩;refine⟨_,_,Jl (kt:=[1,2,27,28]) rfl rfl,?_⟩;rw[ht];simp only[Q8c,Qy];have key:i<x.p.lines.length\/¬i<x.p.lines.length:=Classical.em _;rcases key with h0|h0
 . obtain⟨cap,rfl,rfl⟩:∃cap,lw= .mS 0 18 0 x.p.lines.length cap 13/\o= .cells cs:=by
    rcases hos with⟨n0,_⟩|h
    . omega
    . exact h
   have c1:decide ((i:Int)<x.p.lines.length)=true:=Zsw (by omega);have wi:(IntKind.i64).wrap ((i:Int)+1)=((i+1:Nat):Int):=by have:=sm.lines;rw[wrap_i64]<;>omega
   have at1:=Qyx (P:=Tp) (u:=61) (e:=82) Zu5 Qjg (f:=0) (s:=18) (o:=0) (len:=x.p.lines.length) (cap:=cap) (k:= .i64) (i:=(i:Int)) (by omega) (by omega);obtain⟨dv,hd1,hd2⟩:=hcs.at_ (Zpk h0);have g1:cs[(i:Int).toNat*13+12]?=some dv:=by have:=congrArg (fun l=>l[12]?) hd1;simp only[Zpx,Zq6,Ja] at this;rw[show(i:Int).toNat*13+12=i*13+12 by omega];simpa using this
   obtain⟨m,hm',hm⟩:=(Qvo dv _ hd2 (by have:=sm.dead _ (Zrt h0);omega)).op (by rfl) (Qa (hd2.frz _) rfl);have hm3:∀s H,_:=fun s H=>hm 22 0 s H rfl;have q1:=Zo hd2;have q2:=Zo hm';have q3:=Ko hm';have hcl' :=hcs.len;have le1:(i:Int).toNat*13+12+1<=cs.length:=by omega
   have hset:=hcs.set h0 hm';rw[show i*13+12=(i:Int).toNat*13+12 by omega] at hset;simp only[wA,↓Qc,simprocAttr,c1,wi,at1,g1,hm3,q1,q2,q3,le1,ta,wH,wZ,s1,s2,s3,s4,s5,s6,s7,s8,t1,t2,t3,t4,u1,u2,u3,u4,ll,lc,v1,v2,v3,v4];refine W.opsT (by kernel_rfl) ?_;simp only[wA,↓Qc,simprocAttr,c1,wi,at1,g1,hm3,q1,q2,q3,le1,ta,wH,wZ,s1,s2,s3,s4,s5,s6,s7,s8,t1,t2,t3,t4,u1,u2,u3,u4,ll,lc,v1,v2,v3,v4];exact W.done ⟨i+1,⟨_,_,.inr ⟨_,rfl,rfl⟩,hset,rfl,by omega,rfl⟩,by omega⟩
 . have c1:decide ((i:Int)<x.p.lines.length)=false:=Zsx (by omega);simp only[wA,↓Qc,simprocAttr,c1,ta,wH,wZ,s1,s2,s3,s4,s5,s6,s7,s8,t1,t2,t3,t4,u1,u2,u3,u4,ll,lc,v1,v2,v3,v4];clear hi h0 c1 ht;refine W.done ?_;simp only[wA,↓Qc,simprocAttr,ta,wH,wZ,s1,s2,s3,s4,s5,s6,s7,s8,t1,t2,t3,t4,u1,u2,u3,u4,ll,lc,v1,v2,v3,v4];refine W.ul ?_;refine W.loop (fun(i:Nat) t H=>∃cc oz,Qae 0 21 12 x.p.changes.length cc cw oz/\Zr cc x.p.changes x.datas/\Jj [1,2,46,47] t 0=Zau (.ptr 0 1 0) (.ptr 0 2 0) (.int .i64 x.p.changes.length) (.int .i64 i)/\i<=x.p.changes.length/\
    H=[[(1,.cells (Qy bv' wv' sv' mv' lw kv ov cw x.p)),(2,.cells Qgh),(18,o),(21,oz)]]) (fun i=>x.p.changes.length-i) ?_ 0 ⟨ccs,oc,hoc2,hcc,rfl,Zr9 _,rfl⟩
   rintro i t H ⟨cc,oz,hoz,hcd,ht,hi,rfl⟩;refine⟨_,_,Jl (kt:=[1,2,46,47]) rfl rfl,?_⟩;rw[ht];simp only[Zau,Qy];have key:i<x.p.changes.length\/¬i<x.p.changes.length:=Classical.em _;have pch:=sm.changes;rcases key with h0|h0
   . obtain⟨cap1,rfl,rfl⟩:∃cap1,cw= .mS 0 21 0 x.p.changes.length cap1 12/\oz= .cells cc:=by
      rcases hoz with⟨n0,_⟩|h
      . omega
      . exact h
     have c1:decide ((i:Int)<x.p.changes.length)=true:=Zsw (by omega);have wi:(IntKind.i64).wrap ((i:Int)+1)=((i+1:Nat):Int):=by rw[wrap_i64]<;>omega
     have at1:=Qyx (P:=Tp) (u:=62) (e:=84) Zu7 Qsq (f:=0) (s:=21) (o:=0) (len:=x.p.changes.length) (cap:=cap1) (k:= .i64) (i:=(i:Int)) (by omega) (by omega);obtain⟨dv,hd1,hi2,hd2,hd3⟩:=hcd.at2 h0;have g1:cc[(i:Int).toNat*12+6]?=some dv:=by have:=congrArg (fun l=>l[6]?) hd1;simp only[Zpx,Zq6,Qw] at this;rw[show(i:Int).toNat*12+6=i*12+6 by omega];simpa using this
     have mn:=sm.data _ (Zrt hi2);obtain⟨m,hm',hm⟩:=(Qfc dv _ hd2 (by omega)).op (by rfl) (Qa (hd2.frz _) rfl);have hm3:∀s H,_:=fun s H=>hm 22 0 s H rfl;have q1:=Zo hd2;have q2:=Zo hm';have q3:=Ko hm';have hcl' :=hcd.toC.len;have le1:(i:Int).toNat*12+6+1<=cc.length:=by omega
     have hset:=hcd.set hi2 hm';rw[show i*12+6=(i:Int).toNat*12+6 by omega] at hset;simp only[wA,↓Qc,simprocAttr,c1,wi,at1,g1,hm3,q1,q2,q3,le1,ta,wH,wZ,s1,s2,s3,s4,s5,s6,s7,s8,t1,t2,t3,t4,u1,u2,u3,u4,ll,lc,v1,v2,v3,v4];refine W.opsT (by kernel_rfl) ?_;simp only[wA,↓Qc,simprocAttr,c1,wi,at1,g1,hm3,q1,q2,q3,le1,ta,wH,wZ,s1,s2,s3,s4,s5,s6,s7,s8,t1,t2,t3,t4,u1,u2,u3,u4,ll,lc,v1,v2,v3,v4];exact W.done ⟨i+1,⟨_,_,.inr ⟨_,rfl,rfl⟩,hset,rfl,by omega,rfl⟩,by omega⟩
   . have c1:decide ((i:Int)<x.p.changes.length)=false:=Zsx (by omega);simp only[wA,↓Qc,simprocAttr,c1,ta,wH,wZ,s1,s2,s3,s4,s5,s6,s7,s8,t1,t2,t3,t4,u1,u2,u3,u4,ll,lc,v1,v2,v3,v4];clear hi h0 c1 ht;refine W.done ?_;obtain⟨kw,ok,hck,hok1,hok2⟩:=Zbd kv kcs _ hkv sm.keys hkc.pure.2 hkc.pure.1 (fn:=22) (fr:=0) (d:=65) (H:=[[(1,.cells (Qy bv' wv' sv' mv' lw kv ov cw x.p)),(2,.cells Qgh),(18,o),(21,oz)]]) rfl rfl;obtain⟨ow,oo,hco,hoo1,hoo2⟩:=Zbd ov ocs _ hov sm.loaded hoc.pure.2 hoc.pure.1 (fn:=22) (fr:=0) (d:=68) (H:=[[(1,.cells (Qy bv' wv' sv' mv' lw kv ov cw x.p)),(2,.cells Qgh),(18,o),(21,oz),(65,ok)]]) rfl rfl;simp only[wH,Qy,simprocAttr,if_true,if_false] at hck hco;have v5:=hok1.sc;have v6:=hoo1.sc;have v7:=hok1.cells;have v8:=hoo1.cells;have lk:=hok1.len Zu1;have lo:=hoo1.len Zu1;have mt75:Qf.mt 22 75=true:=rfl;have len115:∀g f s cap,B0 Tp g 113 (.mS f s 0 2 cap 1)=some (.int .i64 2):=fun g f s cap=>Q7l Tryz.underlying113 g;simp only[wA,↓Qc,simprocAttr,hck,hco,mt75,ta,wH,wZ,s1,s2,s3,s4,s5,s6,s7,s8,t1,t2,t3,t4,u1,u2,u3,u4,ll,lc,v1,v2,v3,v4,v5,v6,v7,v8];refine W.opsT (by
      rcases hok2 with⟨rfl,n0,rfl,rfl,rfl⟩|⟨f0,cap,rfl,rfl,rfl⟩
      all_goals rcases hoo2 with⟨rfl,n1,rfl,rfl,rfl⟩|⟨f1,cap1,rfl,rfl,rfl⟩
      all_goals kernel_rfl) ?_
     simp only[wX,↓Qc,simprocAttr,hck,hco,mt75,len115,Tryz.underlying113,sz52,zc52,s1,s2,s3,s4,s5,s6,s7,s8,t1,t2,t3,t4,u1,u2,u3,u4,ll,lc,v1,v2,v3,v4,v5,v6,v7,v8];clear hok2 hoo2 hck hco;refine W.ul ?_;refine W.loop (fun(j:Nat) t H=>∃ck co o5 o6,Qae 0 65 1 x.p.keys.length ck kw o5/\Qae 0 68 1 x.p.loaded.length co ow o6/\K0 ck x.p.keys/\K0 co x.p.loaded/\Jj [1,2,75,76,77] t 0=Q3x (.ptr 0 1 0) (.ptr 0 2 0) (.mS 0 75 0 2 (some 2) 1) (.int .i64 2) (.int .i64 j)/\j<=2/\
      H=[[(1,.cells (Qy bv' wv' sv' mv' lw kw ow cw x.p)),(2,.cells Qgh),(18,o),(21,oz),(65,o5),(68,o6),(75,.cells [kw,ow])]]) (fun j=>2-j) ?_ 0 ⟨kcs,ocs,ok,oo,hok1,hoo1,hkc,hoc,rfl,by omega,rfl⟩
     rintro j t H ⟨ck,co,o5,o6,ho5,ho6,hck1,hco1,ht,hj,rfl⟩;refine⟨_,_,Jl (kt:=[1,2,75,76,77]) rfl rfl,?_⟩;rw[ht];simp only[Q3x,Qy];have at75:=fun(q:Nat) (hq:q<2)=>Qyx (P:=Tp) (u:=113) (e:=52) Tryz.underlying113 sz52 (f:=0) (s:=75) (o:=0) (len:=2) (cap:=some 2) (k:= .i64) (i:=(q:Int)) (by omega) (by omega);have a0:Qu Tp 113 (.mS 0 75 0 2 (some 2) 1) (.int .i64 0)=some (.ptr 0 75 0):=by simpa using at75 0 (by omega)
     have a1:Qu Tp 113 (.mS 0 75 0 2 (some 2) 1) (.int .i64 1)=some (.ptr 0 75 1):=by simpa using at75 1 (by omega)
     have jc:j=0\/j=1\/j=2:=by omega
     rcases jc with rfl|rfl|rfl
     . simp only[wX,↓Qc,simprocAttr,a0,a1,lk,lo,s1,s2,s3,s4,s5,s6,s7,s8,t1,t2,t3,t4,u1,u2,u3,u4,ll,lc,v1,v2,v3,v4,v5,v6,v7,v8];refine W.ul ?_;refine W.loop (fun(i:Nat) t H=>∃cr oq,Qae 0 65 1 x.p.keys.length cr kw oq/\K0 cr x.p.keys/\Jj [1,2,6,75,76,77,81,82,83] t 0=Qob (.ptr 0 1 0) (.ptr 0 2 0) kw (.mS 0 75 0 2 (some 2) 1) (.int .i64 2) (.int .i64 0) kw (.int .i64 x.p.keys.length) (.int .i64 i)/\i<=x.p.keys.length/\
        H=[[(1,.cells (Qy bv' wv' sv' mv' lw kw ow cw x.p)),(2,.cells Qgh),(18,o),(21,oz),(65,oq),(68,o6),(75,.cells [kw,ow])]]) (fun i=>x.p.keys.length-i) ?_ 0 ⟨ck,o5,ho5,hck1,rfl,by omega,rfl⟩
       rintro i t H ⟨cr,oq,hoq,hcr,ht,hi,rfl⟩;refine⟨_,_,Jl (kt:=[1,2,6,75,76,77,81,82,83]) rfl rfl,?_⟩;rw[ht];simp only[Qob,Qy];have key:i<x.p.keys.length\/¬i<x.p.keys.length:=Classical.em _;rcases key with h0|h0
       . obtain⟨cap2,rfl,rfl⟩:∃cap2,kw= .mS 0 65 0 x.p.keys.length cap2 1/\oq= .cells cr:=by
          rcases hoq with⟨n0,_⟩|h
          . omega
          . exact h
         have c1:decide ((i:Int)<x.p.keys.length)=true:=Zsw (by omega);have wi:(IntKind.i64).wrap ((i:Int)+1)=((i+1:Nat):Int):=by have:=sm.keys;rw[wrap_i64]<;>omega
         have at1:=Qyx (P:=Tp) (u:=52) (e:=23) Zu1 Qah (f:=0) (s:=65) (o:=0) (len:=x.p.keys.length) (cap:=cap2) (k:= .i64) (i:=(i:Int)) (by omega) (by omega);obtain⟨dv,hd1,hd2⟩:=hcr.at_ h0;have g1:cr[(i:Int).toNat*1]?=some dv:=by simpa using hd1
         have g2:cr[(i:Int).toNat]?=some dv:=by simpa using hd1
         obtain⟨m,hm',hm⟩:=(Qfc dv _ hd2 (by have:=sm.keyl _ (Zrt h0);omega)).op (by rfl) (Qa (hd2.frz _) rfl);have hm3:∀s H,_:=fun s H=>hm 22 0 s H rfl;have q1:=Zo hd2;have q2:=Zo hm';have q3:=Ko hm';have hcl' :=hcr.len;have le1:(i:Int).toNat+1<=cr.length:=by omega
         have le2:(i:Int).toNat*1+1<=cr.length:=by omega
         have hset:=hcr.set h0 hm';have hset' :K0 (splice cr ((i:Int).toNat) [m]) x.p.keys:=by simpa using hset
         simp only[wA,↓Qc,simprocAttr,c1,wi,at1,g1,g2,hm3,q1,q2,q3,le1,le2,ta,wH,wZ,s1,s2,s3,s4,s5,s6,s7,s8,t1,t2,t3,t4,u1,u2,u3,u4,ll,lc,v1,v2,v3,v4,v5,v6,v7,v8];exact W.done ⟨i+1,⟨_,_,.inr ⟨_,rfl,rfl⟩,hset',rfl,by omega,rfl⟩,by omega⟩
       . have c1:decide ((i:Int)<x.p.keys.length)=false:=Zsx (by omega);simp only[wA,↓Qc,simprocAttr,c1,ta,wH,wZ,s1,s2,s3,s4,s5,s6,s7,s8,t1,t2,t3,t4,u1,u2,u3,u4,ll,lc,v1,v2,v3,v4,v5,v6,v7,v8];refine W.done ?_;simp only[wA,↓Qc,simprocAttr,ta,wH,wZ,s1,s2,s3,s4,s5,s6,s7,s8,t1,t2,t3,t4,u1,u2,u3,u4,ll,lc,v1,v2,v3,v4,v5,v6,v7,v8];exact W.done ⟨1,⟨_,_,_,_,hoq,ho6,hcr,hco1,rfl,by omega,rfl⟩,by omega⟩
     . simp only[wX,↓Qc,simprocAttr,a0,a1,lk,lo,s1,s2,s3,s4,s5,s6,s7,s8,t1,t2,t3,t4,u1,u2,u3,u4,ll,lc,v1,v2,v3,v4,v5,v6,v7,v8];refine W.ul ?_;refine W.loop (fun(i:Nat) t H=>∃cr oq,Qae 0 68 1 x.p.loaded.length cr ow oq/\K0 cr x.p.loaded/\Jj [1,2,6,75,76,77,81,82,83] t 0=Qob (.ptr 0 1 0) (.ptr 0 2 0) ow (.mS 0 75 0 2 (some 2) 1) (.int .i64 2) (.int .i64 1) ow (.int .i64 x.p.loaded.length) (.int .i64 i)/\i<=x.p.loaded.length/\
        H=[[(1,.cells (Qy bv' wv' sv' mv' lw kw ow cw x.p)),(2,.cells Qgh),(18,o),(21,oz),(65,o5),(68,oq),(75,.cells [kw,ow])]]) (fun i=>x.p.loaded.length-i) ?_ 0 ⟨co,o6,ho6,hco1,rfl,by omega,rfl⟩
       rintro i t H ⟨cr,oq,hoq,hcr,ht,hi,rfl⟩;refine⟨_,_,Jl (kt:=[1,2,6,75,76,77,81,82,83]) rfl rfl,?_⟩;rw[ht];simp only[Qob,Qy];have key:i<x.p.loaded.length\/¬i<x.p.loaded.length:=Classical.em _;rcases key with h0|h0
       . obtain⟨cap2,rfl,rfl⟩:∃cap2,ow= .mS 0 68 0 x.p.loaded.length cap2 1/\oq= .cells cr:=by
          rcases hoq with⟨n0,_⟩|h
          . omega
          . exact h
         have c1:decide ((i:Int)<x.p.loaded.length)=true:=Zsw (by omega);have wi:(IntKind.i64).wrap ((i:Int)+1)=((i+1:Nat):Int):=by have:=sm.loaded;rw[wrap_i64]<;>omega
         have at1:=Qyx (P:=Tp) (u:=52) (e:=23) Zu1 Qah (f:=0) (s:=68) (o:=0) (len:=x.p.loaded.length) (cap:=cap2) (k:= .i64) (i:=(i:Int)) (by omega) (by omega);obtain⟨dv,hd1,hd2⟩:=hcr.at_ h0;have g1:cr[(i:Int).toNat*1]?=some dv:=by simpa using hd1
         have g2:cr[(i:Int).toNat]?=some dv:=by simpa using hd1
         obtain⟨m,hm',hm⟩:=(Qfc dv _ hd2 (by have:=sm.loadedl _ (Zrt h0);omega)).op (by rfl) (Qa (hd2.frz _) rfl);have hm3:∀s H,_:=fun s H=>hm 22 0 s H rfl;have q1:=Zo hd2;have q2:=Zo hm';have q3:=Ko hm';have hcl' :=hcr.len;have le1:(i:Int).toNat+1<=cr.length:=by omega
         have le2:(i:Int).toNat*1+1<=cr.length:=by omega
         have hset:=hcr.set h0 hm';have hset' :K0 (splice cr ((i:Int).toNat) [m]) x.p.loaded:=by simpa using hset
         simp only[wA,↓Qc,simprocAttr,c1,wi,at1,g1,g2,hm3,q1,q2,q3,le1,le2,ta,wH,wZ,s1,s2,s3,s4,s5,s6,s7,s8,t1,t2,t3,t4,u1,u2,u3,u4,ll,lc,v1,v2,v3,v4,v5,v6,v7,v8];exact W.done ⟨i+1,⟨_,_,.inr ⟨_,rfl,rfl⟩,hset',rfl,by omega,rfl⟩,by omega⟩
       . have c1:decide ((i:Int)<x.p.loaded.length)=false:=Zsx (by omega);simp only[wA,↓Qc,simprocAttr,c1,ta,wH,wZ,s1,s2,s3,s4,s5,s6,s7,s8,t1,t2,t3,t4,u1,u2,u3,u4,ll,lc,v1,v2,v3,v4,v5,v6,v7,v8];refine W.done ?_;simp only[wA,↓Qc,simprocAttr,ta,wH,wZ,s1,s2,s3,s4,s5,s6,s7,s8,t1,t2,t3,t4,u1,u2,u3,u4,ll,lc,v1,v2,v3,v4,v5,v6,v7,v8];exact W.done ⟨2,⟨_,_,_,_,ho5,hoq,hck1,hcr,rfl,by omega,rfl⟩,by omega⟩
     . simp only[wX,↓Qc,simprocAttr,s1,s2,s3,s4,s5,s6,s7,s8,t1,t2,t3,t4,u1,u2,u3,u4,ll,lc,v1,v2,v3,v4,v5,v6,v7,v8];refine W.done ?_;have z1:19<=Qgh.length:=by decide
       have z2:List.drop 19 Qgh=[]:=rfl;simp only[wX,↓Qc,simprocAttr,z1,z2,s1,s2,s3,s4,s5,s6,s7,s8,t1,t2,t3,t4,u1,u2,u3,u4,ll,lc,v1,v2,v3,v4,v5,v6,v7,v8];have hres:=Q64 hb hw hs hmv ⟨⟨cs,hos,hcs⟩,⟨cc,hoz,hcd⟩,⟨ck,ho5,hck1⟩,⟨co,ho6,hco1⟩⟩ (H:=[[(1,.cells (Qy bv' wv' sv' mv' lw kw ow cw x.p)),(2,.cells (Qy bv' wv' sv' mv' lw kw ow cw x.p)),(18,o),(21,oz),(65,o5),(68,o6),(75,.cells [kw,ow])]]) rfl rfl rfl rfl;obtain⟨lv',kv',ov',cv',h1,h2⟩:=hres;exact W.done (End.ret (v:= .agg (Qy bv' wv' sv' mv' lw kw ow cw x.p)) (Xw rfl rfl rfl (by rw[rd64];rfl)) ⟨_,rfl,_,h1,_,_,_,_,_,_,_,_,rfl,h2⟩)
end
end Go.Proofs.YtpdimkonjmoadaaGreatDoor
namespace Go.AM
theorem Qjf{esz n:Nat}{v:V}{cs:List V}(h:Qv esz v cs n):wtL cs+1<=wt v:=by
 obtain⟨hl,⟨rfl,h0⟩|⟨f,rfl⟩⟩:=h
 . subst h0;have:cs=[]:=Zqh (by omega);subst this;exact Zpp _
 . exact Zpp _
theorem Q4q(l:List UInt8):wtL (Qb l)=l.length:=by
 induction l with
 |nil=>rfl
 |cons b l ih=>
  show 1+wtL (Qb l)=l.length+1;omega
theorem Za0(l:List Int):wtL (Qm l)=l.length:=by
 induction l with
 |nil=>rfl
 |cons b l ih=>
  show 1+wtL (Qm l)=l.length+1;omega
theorem Q9i(l:List Ka):l.length<=wtL (Y6 l):=by
 induction l with
 |nil=>exact Zpp _
 |cons b l ih=>
  have e:Y6 (b::l)=b.cells++Y6 l:=rfl;rw[e,Qea,Zq2];have:wtL b.cells=5:=rfl;omega
theorem Qes{v:V}{l:List UInt8}(h:Qk v l):l.length+1<=wt v:=by have:=Qjf h;rwa[Q4q] at this
theorem Qoc:∀{l:List (List UInt8)} {cs:List V},K0 cs l->(l.map List.length).sum+l.length<=wtL cs/\∀k∈l,k.length<=wtL cs
 |[],cs,h=>by
  have:cs=[]:=h;subst this;exact⟨Zpp _,fun _ h=>by cases h⟩
 |x::l,cs,⟨v,d,e,h1,h2⟩=>by
  subst e;obtain⟨a,b⟩:=Qoc h2;have c:=Qes h1;have e1:wtL (v::d)=wt v+wtL d:=rfl;refine⟨?_,Zsr.2 ⟨by omega,fun k hk=>by have:=b k hk;omega⟩⟩;rw[Zp4,List.sum_cons,Zq2];omega
theorem Qxn:∀{l:List (Int×List UInt8)} {cs:List V},Qaj cs l->l.length<=wtL cs/\∀w∈l,w.2.length<=wtL cs
 |[],cs,h=>by
  have:cs=[]:=h;subst this;exact⟨Zpp _,fun _ h=>by cases h⟩
 |x::l,cs,⟨v,d,e,h1,h2⟩=>by
  subst e;obtain⟨a,b⟩:=Qxn h2;have c:=Qes h1;have e1:wtL (.int .i64 x.1::v::d)=1+(wt v+wtL d):=rfl;refine⟨?_,Zsr.2 ⟨by omega,fun k hk=>by have:=b k hk;omega⟩⟩;rw[Zq2];omega
theorem Qzp:∀{ls:List Ji} {cs:List V},LinesC cs ls->ls.length<=wtL cs/\∀l∈ls,l.dead.length<=wtL cs
 |[],cs,h=>by
  have:cs=[]:=h;subst this;exact⟨Zpp _,fun _ h=>by cases h⟩
 |x::l,cs,⟨v,d,e,h1,h2⟩=>by
  subst e;obtain⟨a,b⟩:=Qzp h2;have c:=Qjf h1;have c2:=Q9i x.dead;have e1:wtL (Ja x v++d)=wtL (Ja x v)+wtL d:=Qea _ _;have e2:wtL (Ja x v)=12+(wt v+0):=by simp only[Ja,wtL,wt];omega
  refine⟨?_,Zsr.2 ⟨by omega,fun k hk=>by have:=b k hk;omega⟩⟩;rw[Zq2];omega
theorem Qp7:∀{l:List Zv} {ds:List (List UInt8)} {cs:List V},Zr cs l ds->l.length<=wtL cs/\∀d∈ds,d.length<=wtL cs
 |[],[],cs,h=>by
  have:cs=[]:=h;subst this;exact⟨Zpp _,fun _ h=>by cases h⟩
 |[],_::_,_,h=>by cases h
 |_::_,[],_,h=>by cases h
 |c::l,x::s,cs,⟨v,d,e,h1,_,h2⟩=>by
  subst e;obtain⟨a,b⟩:=Qp7 h2;have q:=Qes h1;have e1:wtL (Qw c v++d)=wtL (Qw c v)+wtL d:=Qea _ _;have e2:wtL (Qw c v)=11+wt v:=by simp only[Qw,wtL,wt];omega
  refine⟨?_,Zsr.2 ⟨by omega,fun k hk=>by have:=b k hk;omega⟩⟩;rw[Zq2];omega
end Go.AM
namespace Go.Proofs.YtpdimkonjmoadaaGreatDoor
open Go.AM
theorem Q8z{bv wv sv mv lv kv ov cv:V}{x:Yj}(h:Yh bv wv sv mv lv kv ov cv x)(hb:wtL (Qy bv wv sv mv lv kv ov cv x.p)<=1048576):Q32 x:=by
 obtain⟨bcs,hbc,hbv⟩:=h.blocks;obtain⟨wcs,hwc,hwv⟩:=h.waits;obtain⟨lcs,hlc,hlv⟩:=h.lines;obtain⟨kcs,hkc,hkv⟩:=h.keys;obtain⟨ocs,hoc,hov⟩:=h.loaded;obtain⟨ccs,hcc,hcv⟩:=h.changes;have e:wtL (Qy bv wv sv mv lv kv ov cv x.p)=wt bv+wt wv+wt sv+wt mv+wt lv+wt kv+wt ov+wt cv+11:=by simp only[Qy,wtL,wt];omega
 have b1:=Qjf hbv;have b2:=Qjf hwv;have b3:=Qes h.space;have b4:=Qjf h.own;rw[Za0] at b4;have b5:=Qjf hlv;have b6:=Qjf hkv;have b7:=Qjf hov;have b8:=Qjf hcv;obtain⟨a1,_⟩:=Qoc hbc;obtain⟨a2,a3⟩:=Qxn hwc;obtain⟨a4,a5⟩:=Qzp hlc;obtain⟨a6,a7⟩:=Qoc hkc;obtain⟨a8,a9⟩:=Qoc hoc;obtain⟨c1,c2⟩:=Qp7 hcc;exact⟨by show(x.blocks.map List.length).sum<=_;omega,by omega,by omega,fun w hw=>by have:=a3 w hw;omega,by omega,by omega,by omega,by omega,by omega,by omega,fun l hl=>by have:=a5 l hl;omega,fun d hd=>by have:=c2 d hd;omega,fun k hk=>by have:=a7 k hk;omega,fun k hk=>by have:=a9 k hk;omega⟩
end Go.Proofs.YtpdimkonjmoadaaGreatDoor
namespace Go.AM
def Xi:List V->List Yj->Prop
 |cs,[]=>cs=[]
 |cs,x::r=>∃bv wv sv mv lv kv ov cv d,cs=Qy bv wv sv mv lv kv ov cv x.p++d/\Yh bv wv sv mv lv kv ov cv x/\Xi d r
structure Bv where
 pools:List Yj
 stream:List UInt8
 seed:List UInt8
 spent:Int
def Qt(pv tv dv:V)(n:Int):List V:=[pv,tv,dv,.int .i64 n]
structure Yu(pv tv dv:V)(X:Bv):Prop where
 pools:∃cs,Xi cs X.pools/\Qv 19 pv cs X.pools.length
 stream:Qk tv X.stream
 seed:Qk dv X.seed
structure Bv.Fits(X:Bv):Prop where
 each:∀p∈X.pools,p.Fits
 pools:X.pools.length<=Xc
 stream:X.stream.length<=Xc
 seed:X.seed.length<=Xc
theorem Xi.len:∀{l:List Yj} {cs:List V},Xi cs l->cs.length=l.length*19
 |[],cs,h=>by
  have:cs=[]:=h;subst this;rfl
 |x::r,_,⟨bv,wv,sv,mv,lv,kv,ov,cv,d,e,_,h2⟩=>by
  subst e;rw[Zqp,Xi.len h2,Zq2];have:(Qy bv wv sv mv lv kv ov cv x.p).length=19:=rfl;omega
theorem Xi.at_:∀{l:List Yj} {cs:List V} {i:Nat},Xi cs l->(h:i<l.length)->∃bv wv sv mv lv kv ov cv,(cs.drop (i*19)).take 19=Qy bv wv sv mv lv kv ov cv l[i].p/\Yh bv wv sv mv lv kv ov cv l[i]
 |x::r,_,0,⟨bv,wv,sv,mv,lv,kv,ov,cv,d,e,h1,h2⟩,hi=>by
  subst e;exact⟨bv,wv,sv,mv,lv,kv,ov,cv,rfl,h1⟩
 |x::r,_,i+1,⟨bv,wv,sv,mv,lv,kv,ov,cv,d,e,h1,h2⟩,hi=>by
  subst e;obtain⟨bv',wv',sv',mv',lv',kv',ov',cv',g1,g2⟩:=h2.at_ (i:=i) (by simpa using hi);refine⟨bv',wv',sv',mv',lv',kv',ov',cv',?_,g2⟩;rw[show(i+1)*19=(Qy bv wv sv mv lv kv ov cv x.p).length+i*19 by show _=19+_;omega,<-Zq5,List.drop_left];simpa using g1
theorem Xi.app:∀{l:List Yj} {cs:List V} {bv wv sv mv lv kv ov cv:V} {x:Yj},Xi cs l->Yh bv wv sv mv lv kv ov cv x->Xi (cs++Qy bv wv sv mv lv kv ov cv x.p) (l++[x])
 |[],cs,bv,wv,sv,mv,lv,kv,ov,cv,x,h,hx=>by
  have:cs=[]:=h;subst this;exact⟨bv,wv,sv,mv,lv,kv,ov,cv,[],by simp,hx,rfl⟩
 |y::r,_,bv,wv,sv,mv,lv,kv,ov,cv,x,⟨bv',wv',sv',mv',lv',kv',ov',cv',d,e,h1,h2⟩,hx=>by
  subst e;exact⟨bv',wv',sv',mv',lv',kv',ov',cv',_,by rw[Zqm],h1,h2.app hx⟩
def Qcq(X:Bv):Bool:=((X.pools.length:Int) !=2)||((X.seed.length:Int) !=16)||decide (X.spent<0)||decide (X.spent>8)||decide ((X.stream.length:Int)>131072)
end Go.AM
namespace Go.Proofs.YtpdimkonjmoadaaGreatDoor
open Go.AM
attribute [local irreducible] U W
def Qaz(X:Bv):Bool:=!Qcq X&&X.pools.all Qav
theorem Qhx{bv wv sv mv lv kv ov cv:V}{x:Yj}(h:Yh bv wv sv mv lv kv ov cv x)(q:Nat->Nat->Bool):(Qy bv wv sv mv lv kv ov cv x.p).all V.scalar=true/\Qh q (Qy bv wv sv mv lv kv ov cv x.p)=false/\Qo (Qy bv wv sv mv lv kv ov cv x.p)=true:=by
 obtain⟨_,_,h1⟩:=h.blocks;obtain⟨_,_,h2⟩:=h.waits;obtain⟨_,_,h5⟩:=h.lines;obtain⟨_,_,h6⟩:=h.keys;obtain⟨_,_,h7⟩:=h.loaded;obtain⟨_,_,h8⟩:=h.changes;obtain⟨s1,s2,s3,s4,s5,s6,s7,s8⟩:=Qbr h;refine⟨?_,?_,?_⟩
 . simp only[Qy,Zr7,List.all_nil,s1,s2,s3,s4,s5,s6,s7,s8];rfl
 . simp only[Qy,Qh,V.refs,h1.noRefs,h2.noRefs,Qv.noRefs h.space,Qv.noRefs h.own,h5.noRefs,h6.noRefs,h7.noRefs,h8.noRefs,Zsl]
 . simp only[Qy,V.pure,Qo,h1.pure,h2.pure,Qv.pure h.space,Qv.pure h.own,h5.pure,h6.pure,h7.pure,h8.pure,Zrw]
theorem Qo5(q:Nat->Nat->Bool):∀(a b:List V),Qh q (a++b)=(Qh q a||Qh q b)
 |[],b=>by simp[Qh]
 |x::a,b=>by simp only[Zqo,Qh,Qo5 q a b,Bool.or_assoc]
theorem Qip(q:Nat->Nat->Bool):∀{l:List Yj} {cs:List V},Xi cs l->cs.all V.scalar=true/\Qh q cs=false/\Qo cs=true
 |[],cs,h=>by
  have:cs=[]:=h;subst this;exact⟨rfl,rfl,rfl⟩
 |x::r,_,⟨bv,wv,sv,mv,lv,kv,ov,cv,d,e,h1,h2⟩=>by
  subst e;obtain⟨a,b,c⟩:=Qip q h2;obtain⟨a',b',c'⟩:=Qhx h1 q;exact⟨by rw[Zr0,a,a'];rfl,by rw[Qo5,b,b'];rfl,Qco c' c⟩
theorem Qeu{l:List Yj}{cs:List V}{i:Nat}(h:Xi cs l)(hi:i<l.length):∃bv wv sv mv lv kv ov cv,Yh bv wv sv mv lv kv ov cv l[i]/\(∀g,ldV Tp 64 g (.iptr cs ((i:Int).toNat*19))=some (.agg (Qy bv wv sv mv lv kv ov cv l[i].p))):=by obtain⟨bv,wv,sv,mv,lv,kv,ov,cv,h1,h2⟩:=h.at_ hi;refine⟨bv,wv,sv,mv,lv,kv,ov,cv,h2,fun g=>?_⟩;show Qr Tp 64 cs (i*19)=_;have:=h.len;rw[rd64,if_pos (by omega),h1]
section
variable {pv tv dv : V} {X : Bv}
theorem Qbt(h:Yu pv tv dv X):pv.scalar=true/\tv.scalar=true/\dv.scalar=true:=by obtain⟨_,_,h1⟩:=h.pools;exact⟨Zo h1,Zo h.stream,Zo h.seed⟩
theorem Q8r(h:Yu pv tv dv X)(g:Get)(n:Int):frz g depth (.agg (Qt pv tv dv n))=some (.agg (Qt pv tv dv n)):=by obtain⟨_,_,h1⟩:=h.pools;show Option.map V.agg (Qx (AM.frz _ 11) (Qt pv tv dv n))=_;have e:Qx (AM.frz g 11) (Qt pv tv dv n)=some (Qt pv tv dv n):=Qa (h1.frz 10) (Qa (Qv.frz h.stream 10) (Qa (Qv.frz h.seed 10) (Qa rfl rfl)));rw[e];rfl
theorem Qml(h:Yu pv tv dv X)(n:Int):(V.agg (Qt pv tv dv n)).pure=true:=by obtain⟨_,_,h1⟩:=h.pools;simp only[Qt,V.pure,Qo,h1.pure,Qv.pure h.stream,Qv.pure h.seed,Zrw]
theorem Qma(h:Yu pv tv dv X)(n:Int)(q:Nat->Nat->Bool):Qh q (Qt pv tv dv n)=false:=by obtain⟨_,_,h1⟩:=h.pools;simp only[Qt,Qh,V.refs,h1.noRefs,Qv.noRefs h.stream,Qv.noRefs h.seed,Zsl]
set_option maxHeartbeats 4000000 in
theorem Q0l(h:Yu pv tv dv X)(f:X.Fits):Fz Tp Qf 5 [.agg (Qt pv tv dv X.spent)] fun x=>∃b,x= .bool b:=by
 refine Zp Tryz.func5 rfl ?_;obtain⟨pcs,hpc,hpv⟩:=id h.pools;have lp:=hpv.len Zu6;have lt:=h.stream.len Zu0;have ld:=h.seed.len Zu0;obtain⟨s1,s2,s3⟩:=Qbt h;have fp:X.pools.length<=9223372036854775807:=f.pools;simp only[Qt];simp only[wX,↓Qc,simprocAttr,Tryz.ntmps5,lp,lt,ld,s1,s2,s3];refine W.ul ?_;refine W.loopS (kt:=[1,3]) rfl (fun i:Nat=>st5_2 (.ptr 0 1 0) (.int .i64 i)) (fun _=>[[(1,.cells [pv,tv,dv,.int .i64 X.spent])]]) (fun i=>i<=X.pools.length) (fun i=>X.pools.length-i) ?_ 0 (Zr9 _) rfl rfl;intro i hi;simp only[st5_2];have key:i<X.pools.length\/¬i<X.pools.length:=Classical.em _;rcases key with h0|h0
 . have c1:decide ((i:Int)<X.pools.length)=true:=Zsw (by omega);have wi:(IntKind.i64).wrap ((i:Int)+1)=((i+1:Nat):Int):=by rw[wrap_i64]<;>omega
   obtain⟨bv,wv,sv,mv,lv,kv,ov,cv,hx,ld1⟩:=Qeu hpc h0;have at1:=hpv.at (k:= .i64) Zu6 Qs6 (by decide) (i:=(i:Int)) (by omega) (by omega);obtain⟨m,⟨g,rfl⟩,hm⟩:=(Q11 hx (f.each _ (Zrt h0))).op (by rfl) (Qa (Qe0 hx _) rfl);have hm1:∀s H,_:=fun s H=>hm 5 0 s H rfl;cases c2:decide ((i:Int)<5)
   . simp only[wX,↓Qc,simprocAttr,c1,c2,lp,lt,ld,s1,s2,s3];refine W.done ?_;simp only[wX,↓Qc,simprocAttr,lp,lt,ld,s1,s2,s3]
     repeat' ((first|refine W.guardF ?_ ?_|refine W.guardT ?_ ?_|refine W.guardXF ?_ ?_|refine W.guardXT ?_ ?_|refine W.ite ?_ ?_|refine W.opsK1 (by kernel_rfl) ?_)<;>intro h<;>simp only[wX,↓Qc,simprocAttr,h,lp,lt,ld,s1,s2,s3])
     all_goals exact W.done (Zc.ret rfl rfl ⟨_,rfl⟩)
   cases g
   . simp only[wX,↓Qc,simprocAttr,c1,c2,at1,ld1,hm1,wi,lp,lt,ld,s1,s2,s3];exact W.done ⟨i+1,rfl,rfl,by omega,by omega⟩
   . simp only[wX,↓Qc,simprocAttr,c1,c2,at1,ld1,hm1,wi,lp,lt,ld,s1,s2,s3];refine W.done ?_;simp only[wX,↓Qc,simprocAttr,lp,lt,ld,s1,s2,s3];exact W.done (Zc.ret rfl rfl ⟨_,rfl⟩)
 . have c1:decide ((i:Int)<X.pools.length)=false:=Zsx (by omega);simp only[wX,↓Qc,simprocAttr,c1,lp,lt,ld,s1,s2,s3];refine W.done ?_;simp only[wX,↓Qc,simprocAttr,lp,lt,ld,s1,s2,s3]
   repeat' ((first|refine W.guardF ?_ ?_|refine W.guardT ?_ ?_|refine W.guardXF ?_ ?_|refine W.guardXT ?_ ?_|refine W.ite ?_ ?_|refine W.opsK1 (by kernel_rfl) ?_)<;>intro h<;>simp only[wX,↓Qc,simprocAttr,h,lp,lt,ld,s1,s2,s3])
   all_goals exact W.done (Zc.ret rfl rfl ⟨_,rfl⟩)
theorem Zb8{α:Type}{p:α->Bool}{l:List α}(h:l.length=2):l.all p=(p (l[0]'(by omega))&&p (l[1]'(by omega))):=by
 match l,h with
 |[a,b],_=>simp
set_option maxHeartbeats 4000000 in
theorem Quw(h:Yu pv tv dv X)(f:X.Fits):Fz Tp Qf 11 [.agg (Qt pv tv dv X.spent)] fun x=>x= .int .i64 (okE (Qaz X)):=by
 refine Fz.of_cw ?_;refine(?_:CW Tp Qf 11 [.agg (Qt pv tv dv X.spent)] [] fun x _=>x= .ret (.int .i64 (okE (Qaz X)))).mono (fun r H' h=>⟨_,h,_,rfl,rfl⟩);refine Ye Tryz.func11 rfl ?_;obtain⟨pcs,hpc,hpv⟩:=id h.pools;have lp:=hpv.len Zu6;have lt:=h.stream.len Zu0;have ld:=h.seed.len Zu0;obtain⟨s1,s2,s3⟩:=Qbt h;simp only[Qt];cases c1:((X.pools.length:Int) !=2)
 case true=>simp only[wX,↓Qc,simprocAttr,Tryz.ntmps11,lp,lt,ld,s1,s2,s3,c1];exact W.done (End.ret rfl (by simp only[Qaz,Qcq,c1];rfl))
 cases c2:((X.seed.length:Int) !=16)
 case true=>simp only[wX,↓Qc,simprocAttr,Tryz.ntmps11,lp,lt,ld,s1,s2,s3,c1,c2];exact W.done (End.ret rfl (by simp only[Qaz,Qcq,c1,c2];rfl))
 cases c3:decide (X.spent<0)
 case true=>simp only[wX,↓Qc,simprocAttr,Tryz.ntmps11,lp,lt,ld,s1,s2,s3,c1,c2,c3];exact W.done (End.ret rfl (by simp only[Qaz,Qcq,c1,c2,c3];rfl))
 cases c4:decide (X.spent>8)
 case true=>simp only[wX,↓Qc,simprocAttr,Tryz.ntmps11,lp,lt,ld,s1,s2,s3,c1,c2,c3,c4];exact W.done (End.ret rfl (by simp only[Qaz,Qcq,c1,c2,c3,c4];rfl))
 cases c5:decide ((X.stream.length:Int)>131072)
 case true=>simp only[wX,↓Qc,simprocAttr,Tryz.ntmps11,lp,lt,ld,s1,s2,s3,c1,c2,c3,c4,c5];exact W.done (End.ret rfl (by simp only[Qaz,Qcq,c1,c2,c3,c4,c5];rfl))
 have ht:Qcq X=false:=by simp only[Qcq,c1,c2,c3,c4,c5];rfl
 have l2:X.pools.length=2:=by have:=c1;simp only[bne_eq_false_iff_eq] at this;omega
 have hok:Qaz X=(Qav (X.pools[0]'(by omega))&&Qav (X.pools[1]'(by omega))):=by simp only[Qaz,ht,Zb8 l2];rfl
 rw[hok];have one:∀j:Nat,(hj:j<X.pools.length)->∃bv wv sv mv lv kv ov cv,Yh bv wv sv mv lv kv ov cv X.pools[j]/\(∀g,ldV Tp 64 g (.iptr pcs ((j:Int).toNat*19))=some (.agg (Qy bv wv sv mv lv kv ov cv X.pools[j].p)))/\
  ∀s H,callOp Qf (Qq Tp Qf) 11 0 s 20 [.agg (Qy bv wv sv mv lv kv ov cv X.pools[j].p)] H=some (.ret (.int .i64 (okE (Qav X.pools[j]))),H):=by
  intro j hj;obtain⟨bv,wv,sv,mv,lv,kv,ov,cv,hx,ld1⟩:=Qeu hpc hj;obtain⟨m,rfl,hm⟩:=(Q61 hx (f.each _ (Zrt hj))).op (by rfl) (Qa (Qe0 hx _) rfl);exact⟨bv,wv,sv,mv,lv,kv,ov,cv,hx,ld1,fun s H=>hm 11 0 s H rfl⟩
 have at1:∀j:Nat,j<2->Qu Tp 22 pv (.int .i64 (j:Int))=_:=fun j hj=>hpv.at (k:= .i64) Zu6 Qs6 (by decide) (i:=(j:Int)) (by omega) (by omega);rw[l2] at lp;simp only[wX,↓Qc,simprocAttr,Tryz.ntmps11,lp,lt,ld,s1,s2,s3,c1,c2,c3,c4,c5];refine W.ul ?_;refine W.loop (fun(j:Nat) t H=>∃F:AM.Frame,Jj [35,36,37] t 0=Q2d pv (.int .i64 2) (.int .i64 j)/\j<=2/\(∀i,(hi:i<j)->(hk:i<X.pools.length)->Qav X.pools[i]=true)/\H=[F]/\(F=[(1,.cells [pv,tv,dv,.int .i64 X.spent])]\/∃x,F=[(1,.cells [pv,tv,dv,.int .i64 X.spent]),(4,.cells x)])) (fun j=>2-j) ?_ 0 ⟨_,rfl,Zr9 _,(fun i hi=>by omega),rfl,.inl rfl⟩;rintro j t H ⟨F,ht,hj,hall,rfl,hF⟩;have hd:([F]:Heap).modify 0 (Jk fun s=>[4].contains s)=[[(1,.cells [pv,tv,dv,.int .i64 X.spent])]]:=by rcases hF with rfl|⟨x,rfl⟩<;>rfl
 have pvr:pv.refs (fun f s=>f==0&&[4].contains s)=false:=hpv.noRefs _;have tvr:tv.refs (fun f s=>f==0&&[4].contains s)=false:=Qv.noRefs h.stream _;have dvr:dv.refs (fun f s=>f==0&&[4].contains s)=false:=Qv.noRefs h.seed _;refine⟨_,_,Zq (kt:=[35,36,37]) (ds:=[4]) rfl ?_ ?_,?_⟩
 . rw[ht];simp only[Q2d,Qh,V.refs,pvr];simp
 . rw[hd];simp only[Zb,Q0,O.refs,Qh,V.refs,pvr,tvr,dvr];simp
 rw[ht,hd];simp only[Q2d];have jc:j=0\/j=1\/j=2:=by omega
 by_cases h2:j<2
 . obtain⟨bv,wv,sv,mv,lv,kv,ov,cv,hx,ld1,hm1⟩:=one j (by omega);have c6:decide ((j:Int)<2)=true:=Zsw (by omega);have w2:(IntKind.i64).wrap ((j:Int)+1)=((j+1:Nat):Int):=by rw[wrap_i64]<;>omega
   have a1:=at1 j h2;obtain⟨y1,y2,y3,y4,y5,y6,y7,y8⟩:=Qbr hx;cases hp:Qav X.pools[j]
   . rw[hp] at hm1;simp only[Qy,okE] at ld1 hm1;simp only[wX,↓Qc,simprocAttr,c6,a1,ld1,hm1,w2,y1,y2,y3,y4,y5,y6,y7,y8];refine W.done ?_;simp only[wA,↓Qc,simprocAttr];refine W.done (End.ret rfl ?_);have:(Qav (X.pools[0]'(by omega))&&Qav (X.pools[1]'(by omega)))=false:=by
      rcases jc with rfl|rfl|rfl
      . rw[hp];rfl
      . rw[hp];exact Bool.and_false _
      . omega
     rw[this];rfl
   . rw[hp] at hm1;simp only[Qy,okE] at ld1 hm1;simp only[wX,↓Qc,simprocAttr,c6,a1,ld1,hm1,w2,y1,y2,y3,y4,y5,y6,y7,y8];refine W.done ⟨j+1,⟨_,rfl,by omega,fun i hi hk=>?_,rfl,.inr ⟨_,rfl⟩⟩,by omega⟩;by_cases e:i=j
     . subst e;exact hp
     . exact hall i (by omega) hk
 . have c6:decide ((j:Int)<2)=false:=Zsx (by omega);have:(Qav (X.pools[0]'(by omega))&&Qav (X.pools[1]'(by omega)))=true:=by
    rw[hall 0 (by omega) (by omega),hall 1 (by omega) (by omega)];rfl
   rw[this];simp only[wA,↓Qc,simprocAttr,c6];refine W.done ?_;simp only[wA,↓Qc,simprocAttr];exact W.done (End.ret rfl rfl)
end
end Go.Proofs.YtpdimkonjmoadaaGreatDoor
namespace Go.Proofs.YtpdimkonjmoadaaGreatDoor
open Go.AM
attribute [local irreducible] U W
theorem Qyj{x y:Operand}(p:Ka):Zj Tp .neq 60 x y (.agg p.cells) (.agg p.cells)=some (.bool false):=by
 have h1:=Qmj (x:=x) (y:=y) p p;have e1:Qj8 Tp 60 x y (.agg p.cells) (.agg p.cells)=some true:=by
  simp only[Zj] at h1;cases hq:Qj8 Tp 60 x y (.agg p.cells) (.agg p.cells) with
  |none=>rw[hq] at h1;cases h1
  |some b=>rw[hq] at h1;simpa using h1
 simp only[Zj,e1,Zpl];rfl
theorem Q33{x y:Operand}(p:Ka):Zj Tp .eql 60 x y (.agg p.cells) (.agg p.cells)=some (.bool true):=by rw[Qmj,Zsw rfl]
theorem Qkp{v:V}{l:List UInt8}(h:Qk v l):∀g,convertV Tp g 23 9 v=some (.val (.str l) none):=fun g=>Qkm Zu0 Zu10 Tryz.underlying9 (Qv.sc h)
theorem Q4i{a b:V}{l:List Int}(ha:Ke a l)(hb:Ke b l)(hl:l.length<=9223372036854775807):Fz Tp Qf 32 [a,b] fun r=>r= .bool true:=by
 refine Zp Tryz.func32 rfl ?_;have la:=ha.len Zu2;have lb:=hb.len Zu2;have s1:=Zo ha;have s2:=Zo hb;have c0:((l.length:Int) !=(l.length:Int))=false:=bne_self_eq_false _;simp only[wX,↓Qc,simprocAttr,Tryz.ntmps32,la,lb,s1,s2,c0];refine W.ul ?_;refine W.loopS (kt:=[0,1,5]) rfl (fun i:Nat=>Q9q a b (.int .i64 i)) (fun _=>[[]]) (fun i=>i<=l.length) (fun i=>l.length-i) ?_ 0 (Zr9 _) rfl rfl;intro i hi;simp only[Q9q];have key:i<l.length\/¬i<l.length:=Classical.em _;rcases key with h0|h0
 . have c1:decide ((i:Int)<l.length)=true:=Zsw (by omega);have wi:(IntKind.i64).wrap ((i:Int)+1)=((i+1:Nat):Int):=by rw[wrap_i64]<;>omega
   have at1:=ha.at (k:= .i64) Zu2 sz3 (by decide) (i:=(i:Int)) (by omega) (by omega);have at2:=hb.at (k:= .i64) Zu2 sz3 (by decide) (i:=(i:Int)) (by omega) (by omega);have g1:(Qm l)[(i:Int).toNat]?=some (.int .i64 l[i]):=by simp[Qm,h0]
   have g1' :(Qm l)[(i:Int).toNat*1]?=some (.int .i64 l[i]):=by simpa using g1
   have c2:(l[i] !=l[i])=false:=bne_self_eq_false _;simp only[wX,↓Qc,simprocAttr,c1,at1,at2,g1,g1',c2,wi,la,lb,s1,s2];refine W.opsK1 (by kernel_rfl) ?_;intro _;simp only[wX,↓Qc,simprocAttr,c1,at1,at2,g1,g1',c2,wi,la,lb,s1,s2];exact W.done ⟨i+1,rfl,rfl,by omega,by omega⟩
 . have c1:decide ((i:Int)<l.length)=false:=Zsx (by omega);simp only[wX,↓Qc,simprocAttr,c1,la,lb,s1,s2];refine W.done ?_;simp only[wX,↓Qc,simprocAttr,la,lb,s1,s2];exact W.done (Zc.ret rfl rfl rfl)
theorem Qxs{a b:V}{l:List (List UInt8)}(ha:Kf a l)(hb:Kf b l)(hl:l.length<=9223372036854775807):Fz Tp Qf 35 [a,b] fun r=>r= .bool true:=by
 refine Zp Tryz.func35 rfl ?_;obtain⟨ac,hac,ha⟩:=ha;obtain⟨bc,hbc,hb⟩:=hb;have la:=ha.len Zu1;have lb:=hb.len Zu1;have s1:=Zo ha;have s2:=Zo hb;have c0:((l.length:Int) !=(l.length:Int))=false:=bne_self_eq_false _;simp only[wX,↓Qc,simprocAttr,Tryz.ntmps35,la,lb,s1,s2,c0];refine W.ul ?_;refine W.loopS (kt:=[0,1,5]) rfl (fun i:Nat=>Q9n a b (.int .i64 i)) (fun _=>[[]]) (fun i=>i<=l.length) (fun i=>l.length-i) ?_ 0 (Zr9 _) rfl rfl;intro i hi;simp only[Q9n];have key:i<l.length\/¬i<l.length:=Classical.em _;rcases key with h0|h0
 . have c1:decide ((i:Int)<l.length)=true:=Zsw (by omega);have wi:(IntKind.i64).wrap ((i:Int)+1)=((i+1:Nat):Int):=by rw[wrap_i64]<;>omega
   have at1:=ha.at (k:= .i64) Zu1 Qah (by decide) (i:=(i:Int)) (by omega) (by omega);have at2:=hb.at (k:= .i64) Zu1 Qah (by decide) (i:=(i:Int)) (by omega) (by omega);obtain⟨v,h1,hv⟩:=hac.at_ h0;obtain⟨w,h2,hw⟩:=hbc.at_ h0;have k1:=Qkp hv;have k2:=Qkp hw;have g1:ac[(i:Int).toNat]?=some v:=by simpa using h1
   have g1' :ac[(i:Int).toNat*1]?=some v:=by simpa using h1
   have g2:bc[(i:Int).toNat]?=some w:=by simpa using h2
   have g2' :bc[(i:Int).toNat*1]?=some w:=by simpa using h2
   have c2:(l[i]==l[i])=true:=beq_self_eq_true _;simp only[wX,↓Qc,simprocAttr,c1,at1,at2,g1,g1',g2,g2',k1,k2,Qc3,c2,wi,la,lb,s1,s2];refine W.opsK1 (by kernel_rfl) ?_;intro _;simp only[wX,↓Qc,simprocAttr,c1,at1,at2,g1,g1',g2,g2',k1,k2,Qc3,c2,wi,la,lb,s1,s2];exact W.done ⟨i+1,rfl,rfl,by omega,by omega⟩
 . have c1:decide ((i:Int)<l.length)=false:=Zsx (by omega);simp only[wX,↓Qc,simprocAttr,c1,la,lb,s1,s2];refine W.done ?_;simp only[wX,↓Qc,simprocAttr,la,lb,s1,s2];exact W.done (Zc.ret rfl rfl rfl)
theorem Q5f{a b:V}{l:List Ka}(ha:Bm a l)(hb:Bm b l)(hl:l.length<=9223372036854775807):Fz Tp Qf 63 [a,b] fun r=>r= .bool true:=by
 refine Zp Tryz.func63 rfl ?_;have la:=ha.len Zu8;have lb:=hb.len Zu8;have s1:=Zo ha;have s2:=Zo hb;have c0:((l.length:Int) !=(l.length:Int))=false:=bne_self_eq_false _;simp only[wX,↓Qc,simprocAttr,Tryz.ntmps63,la,lb,s1,s2,c0];refine W.ul ?_;refine W.loopS (kt:=[0,1,5]) rfl (fun i:Nat=>Q84 a b (.int .i64 i)) (fun _=>[[]]) (fun i=>i<=l.length) (fun i=>l.length-i) ?_ 0 (Zr9 _) rfl rfl;intro i hi;simp only[Q84];have key:i<l.length\/¬i<l.length:=Classical.em _;rcases key with h0|h0
 . have c1:decide ((i:Int)<l.length)=true:=Zsw (by omega);have wi:(IntKind.i64).wrap ((i:Int)+1)=((i+1:Nat):Int):=by rw[wrap_i64]<;>omega
   have at1:=ha.at (k:= .i64) Zu8 Qyc (by decide) (i:=(i:Int)) (by omega) (by omega);have at2:=hb.at (k:= .i64) Zu8 Qyc (by decide) (i:=(i:Int)) (by omega) (by omega);have ld1:∀g,ldV Tp 60 g (.iptr (Y6 l) ((i:Int).toNat*5))=some (.agg l[i].cells):=fun g=>by show Qr Tp 60 (Y6 l) (i*5)=_;rw[rd60,if_pos (by rw[Qlw];omega),Qpe l i h0]
   have c2:∀p q,Zj Tp .neq 60 p q (.agg l[i].cells) (.agg l[i].cells)=some (.bool false):=fun p q=>Qyj _;simp only[wX,↓Qc,simprocAttr,c1,at1,at2,ld1,c2,wi,la,lb,s1,s2];refine W.opsK1 (by kernel_rfl) ?_;intro _;simp only[wX,↓Qc,simprocAttr,c1,at1,at2,ld1,c2,wi,la,lb,s1,s2];exact W.done ⟨i+1,rfl,rfl,by omega,by omega⟩
 . have c1:decide ((i:Int)<l.length)=false:=Zsx (by omega);simp only[wX,↓Qc,simprocAttr,c1,la,lb,s1,s2];refine W.done ?_;simp only[wX,↓Qc,simprocAttr,la,lb,s1,s2];exact W.done (Zc.ret rfl rfl rfl)
set_option maxHeartbeats 4000000 in
theorem Q5g{b1 w1 b2 w2:V}{bl:List (List UInt8)}{wl:List (Int×List UInt8)}(hb1:Kf b1 bl)(hw1:Xh w1 wl)(hb2:Kf b2 bl)(hw2:Xh w2 wl)(nb:bl.length<=9223372036854775807)(nw:wl.length<=9223372036854775807):
 Fz Tp Qf 62 [.agg [b1,w1],.agg [b2,w2]] fun r=>r= .bool true:=by
 refine Zp Tryz.func62 rfl ?_;obtain⟨ac,hac,ha⟩:=hb1;obtain⟨bc,hbc,hb⟩:=hb2;obtain⟨cc,hcc,hc⟩:=hw1;obtain⟨dc,hdc,hd⟩:=hw2;have la:=ha.len Zu1;have lb:=hb.len Zu1;have lc:=hc.len Zu4;have ld:=hd.len Zu4;have s1:=Zo ha;have s2:=Zo hb;have s3:=Zo hc;have s4:=Zo hd;have c0:((bl.length:Int) !=(bl.length:Int))=false:=bne_self_eq_false _;have c0' :((wl.length:Int) !=(wl.length:Int))=false:=bne_self_eq_false _;simp only[wX,↓Qc,simprocAttr,Tryz.ntmps62,la,lb,lc,ld,s1,s2,s3,s4,c0,c0'];refine W.ul ?_;refine W.loopS (kt:=[2,3,5,6]) rfl (fun i:Nat=>Zap (.ptr 0 2 0) (.ptr 0 3 0) (.int .i64 0) (.int .i64 i)) (fun _=>[[(2,.cells [b1,w1]),(3,.cells [b2,w2])]]) (fun i=>i<=bl.length) (fun i=>bl.length-i) ?_ 0 (Zr9 _) rfl rfl;intro i hi;simp only[Zap];have key:i<bl.length\/¬i<bl.length:=Classical.em _;rcases key with h0|h0
 . have c1:decide ((i:Int)<bl.length)=true:=Zsw (by omega);have wi:(IntKind.i64).wrap ((i:Int)+1)=((i+1:Nat):Int):=by rw[wrap_i64]<;>omega
   have at1:=ha.at (k:= .i64) Zu1 Qah (by decide) (i:=(i:Int)) (by omega) (by omega);have at2:=hb.at (k:= .i64) Zu1 Qah (by decide) (i:=(i:Int)) (by omega) (by omega);obtain⟨v,h1,hv⟩:=hac.at_ h0;obtain⟨w,h2,hw⟩:=hbc.at_ h0;have k1:=Qkp hv;have k2:=Qkp hw;have g1:ac[(i:Int).toNat]?=some v:=by simpa using h1
   have g1' :ac[(i:Int).toNat*1]?=some v:=by simpa using h1
   have g2:bc[(i:Int).toNat]?=some w:=by simpa using h2
   have g2' :bc[(i:Int).toNat*1]?=some w:=by simpa using h2
   have c2:(bl[i]==bl[i])=true:=beq_self_eq_true _;simp only[wX,↓Qc,simprocAttr,c1,at1,at2,g1,g1',g2,g2',k1,k2,Qc3,c2,wi,la,lb,s1,s2,s3,s4];refine W.opsK1 (by kernel_rfl) ?_;intro _;simp only[wX,↓Qc,simprocAttr,c1,at1,at2,g1,g1',g2,g2',k1,k2,Qc3,c2,wi,la,lb,s1,s2,s3,s4];exact W.done ⟨i+1,rfl,rfl,by omega,by omega⟩
 have c1:decide ((i:Int)<bl.length)=false:=Zsx (by omega);simp only[wX,↓Qc,simprocAttr,c1,la,lb,s1,s2,s3,s4];refine W.done ?_;simp only[wX,↓Qc,simprocAttr,la,lb,lc,ld,s1,s2,s3,s4];refine W.ul ?_;have zw:∀i:Nat,2*i+1<cc.length->True:=fun _ _=>trivial;refine W.loop (fun(j:Nat) t H=>∃F:AM.Frame,Jj [2,3,5,7] t 0=Quu (.ptr 0 2 0) (.ptr 0 3 0) (.int .i64 0) (.int .i64 j)/\j<=wl.length/\H=[F]/\(F=[(2,.cells [b1,w1]),(3,.cells [b2,w2])]\/∃x y,F=[(2,.cells [b1,w1]),(3,.cells [b2,w2]),(8,.cells x),(9,.cells y)])) (fun j=>wl.length-j) ?_ 0 ⟨_,rfl,Zr9 _,rfl,.inl rfl⟩;rintro j t H ⟨F,ht,hj,rfl,hF⟩;have hdm:([F]:Heap).modify 0 (Jk fun s=>[8,9].contains s)=[[(2,.cells [b1,w1]),(3,.cells [b2,w2])]]:=by rcases hF with rfl|⟨x,y,rfl⟩<;>rfl
 have nr1:∀q,b1.refs q=false:=fun q=>ha.noRefs q;have nr2:∀q,b2.refs q=false:=fun q=>hb.noRefs q;have nr3:∀q,w1.refs q=false:=fun q=>hc.noRefs q;have nr4:∀q,w2.refs q=false:=fun q=>hd.noRefs q;refine⟨_,_,Zq (kt:=[2,3,5,7]) (ds:=[8,9]) rfl ?_ ?_,?_⟩
 . rw[ht];simp only[Quu,Qh,V.refs];simp
 . rw[hdm];simp only[Zb,Q0,O.refs,Qh,V.refs,nr1,nr2,nr3,nr4];simp
 rw[ht,hdm];simp only[Quu];have key:j<wl.length\/¬j<wl.length:=Classical.em _;rcases key with h2|h2
 . have d1:decide ((j:Int)<wl.length)=true:=Zsw (by omega);have wj:(IntKind.i64).wrap ((j:Int)+1)=((j+1:Nat):Int):=by rw[wrap_i64]<;>omega
   have at1:=hc.at (k:= .i64) Zu4 Qdq (by decide) (i:=(j:Int)) (by omega) (by omega);have at2:=hd.at (k:= .i64) Zu4 Qdq (by decide) (i:=(j:Int)) (by omega) (by omega);have ldw:∀{cs:List V},Qaj cs wl->∃v,Qk v wl[j].2/\∀g,ldV Tp 134 g (.iptr cs ((j:Int).toNat*2))=some (.agg [.int .i64 wl[j].1,v]):=fun{cs} hcs=>by
    obtain⟨e1,v,e2,hv⟩:=hcs.at_ h2;refine⟨v,hv,fun g=>?_⟩;have e:(j:Int).toNat*2=2*j:=by omega
    have hl:=hcs.len;rw[e];show Qr Tp 134 cs (2*j)=_;rw[Qtg,if_pos (by omega)];have d1:cs.drop (2*j)=V.int .i64 wl[j].1::v::cs.drop (2*j+1+1):=by rw[Zsn (by omega:2*j<cs.length),Zsn (by omega:2*j+1<cs.length)];rw[Zpk (by omega)] at e1 e2;rw[Option.some.inj e1,Option.some.inj e2]
    rw[d1];rfl
   obtain⟨v,hv,ld1⟩:=ldw hcc;obtain⟨w,hw,ld2⟩:=ldw hdc;have k1:=Qkp hv;have k2:=Qkp hw;have v1:=Zo hv;have v2:=Zo hw;have d2:(wl[j].1 !=wl[j].1)=false:=bne_self_eq_false _;have d3:(wl[j].2==wl[j].2)=true:=beq_self_eq_true _;simp only[wX,↓Qc,simprocAttr,d1,at1,at2,ld1,ld2,k1,k2,Qc3,v1,v2,d2,d3,wj,lc,ld,s1,s2,s3,s4];exact W.done ⟨j+1,⟨_,rfl,by omega,rfl,.inr ⟨_,_,rfl⟩⟩,by omega⟩
 . have d1:decide ((j:Int)<wl.length)=false:=Zsx (by omega);simp only[wX,↓Qc,simprocAttr,d1,lc,ld,s1,s2,s3,s4];refine W.done ?_;simp only[wX,↓Qc,simprocAttr];exact W.done (Zc.ret rfl rfl rfl)
theorem Q6t{b1 w1 v1 b2 w2 v2:V}{bl:List (List UInt8)}{wl:List (Int×List UInt8)}{sp:List UInt8}(h1:Qf5 b1 w1 v1 bl wl sp)(h2:Qf5 b2 w2 v2 bl wl sp)(e c:Int):
 Fz Tp Qf 31 [Qda b1 w1 v1 e c,Qda b2 w2 v2 e c] fun r=>r= .bool true:=by
 refine Zp Tryz.func31 rfl ?_;obtain⟨m,rfl,hm⟩:=(Q5g h1.blocks h1.waits h2.blocks h2.waits h1.b1 h1.w1).op (by rfl) (Qa (Qgv h1.blocks h1.waits _) (Qa (Qgv h2.blocks h2.waits _) rfl));have hm1:∀s H,_:=fun s H=>hm 31 0 s H rfl;obtain⟨_,_,a1⟩:=id h1.blocks;obtain⟨_,_,a2⟩:=id h1.waits;obtain⟨_,_,a3⟩:=id h2.blocks;obtain⟨_,_,a4⟩:=id h2.waits;have s1:=Zo a1;have s2:=Zo a2;have s3:=Zo a3;have s4:=Zo a4;have s5:=Zo h1.space;have s6:=Zo h2.space;have k1:=Qkp h1.space;have k2:=Qkp h2.space;simp only[wX,↓Qc,simprocAttr,Tryz.ntmps31,hm1,k1,k2,Qc3,s1,s2,s3,s4,s5,s6,beq_self_eq_true];exact W.done (Zc.ret rfl rfl rfl)
theorem Q28{a:V}{l:List UInt8}(ha:Qk a l)(g:Get)(n:Int):frz g depth (.agg [a,.int .i64 n])=some (.agg [a,.int .i64 n]):=by show Option.map V.agg (Qx (AM.frz _ 11) [a,.int .i64 n])=_;rw[Qa (Qv.frz ha 10) (Qa rfl rfl)];rfl
theorem Zan{ls:List Zv}{ds:List (List UInt8)}{cs:List V}{i:Nat}(h:Zr cs ls ds)(hi:i<ls.length):∃dv,∃hk:i<ds.length,Qk dv ds[i]/\(∀g,ldV Tp 84 g (.iptr cs ((i:Int).toNat*12))=some (.agg (Qw ls[i] dv))):=by obtain⟨dv,h1,h2,h3,_⟩:=h.at2 hi;refine⟨dv,h2,h3,fun g=>?_⟩;show Qr Tp 84 cs (i*12)=_;have:=Quv h;rw[rd84,if_pos (by omega),h1]
theorem Q65{a b:V}{l:List UInt8}(ha:Qk a l)(hb:Qk b l)(n:Int):Fz Tp Qf 14 [.agg [a,.int .i64 n],.agg [b,.int .i64 n]] fun r=>r= .bool true:=by refine Zp Tryz.func14 rfl ?_;have s1:=Zo ha;have s2:=Zo hb;have k1:=Qkp ha;have k2:=Qkp hb;simp only[wX,↓Qc,simprocAttr,Tryz.ntmps14,k1,k2,Qc3,s1,s2,beq_self_eq_true];exact W.done (Zc.ret rfl rfl rfl)
def Q8b(c:Zv):Int:=(IntKind.i64).wrap ((IntKind.i64).wrap ((IntKind.i64).wrap ((IntKind.i64).wrap (c.set*16)+c.obj)*16)+c.index)
theorem Qtv(c:Zv)(dv:V)(hd:dv.scalar=true):Fz Tp Qf 64 [.agg (Qw c dv)] fun r=>r= .int .i64 (Q8b c):=by refine Zp Tryz.func64 rfl ?_;obtain⟨cs,co,ci,ck,cl,cz,cn,⟨ra,rb,rc,rd,re⟩⟩:=c;simp only[Qw];simp only[wX,↓Qc,simprocAttr,Tryz.ntmps64,hd];exact W.done (Zc.ret rfl rfl rfl)
theorem Bk{c:Zv}{dv:V}{l:List UInt8}(hd:Qk dv l)(g:Get):frz g depth (.agg (Qw c dv))=some (.agg (Qw c dv)):=by
 show Option.map V.agg (Qx (AM.frz _ 11) (Qw c dv))=_;have e:Qx (AM.frz g 11) (Qw c dv)=some (Qw c dv):=by
  simp only[Qw]
  repeat' (first|refine Qa rfl ?_|refine Qa (Qv.frz hd 10) ?_|rfl)
 rw[e];rfl
set_option maxHeartbeats 4000000 in
theorem Qsj(c:Zv){a b:V}{l:List UInt8}(ha:Qk a l)(hb:Qk b l):Fz Tp Qf 34 [.agg (Qw c a),.agg (Qw c b)] fun r=>r= .bool true:=by refine Zp Tryz.func34 rfl ?_;have s1:=Zo ha;have s2:=Zo hb;have k1:=Qkp ha;have k2:=Qkp hb;obtain⟨m,rfl,hm⟩:=(Qtv c a s1).op (by rfl) (Qa (Bk ha _) rfl);have hm1:∀s H,_:=fun s H=>hm 34 0 s H rfl;obtain⟨m,rfl,hm⟩:=(Qtv c b s2).op (by rfl) (Qa (Bk hb _) rfl);have hm2:∀s H,_:=fun s H=>hm 34 0 s H rfl;generalize Q8b c=n at hm1 hm2;obtain⟨cs,co,ci,ck,cl,cz,cn,⟨ra,rb,rc,rd,re⟩⟩:=c;have pe:∀x y,Zj Tp .eql 60 x y (.agg [.int .i64 ra,.int .u32 rb,.int .u32 rc,.int .u32 rd,.int .u32 re]) (.agg [.int .i64 ra,.int .u32 rb,.int .u32 rc,.int .u32 rd,.int .u32 re])=some (.bool true):=fun x y=>Q33 (⟨ra,rb,rc,rd,re⟩:Ka);simp only[Qw] at hm1 hm2⊢;simp only[wX,↓Qc,simprocAttr,Tryz.ntmps34,hm1,hm2,k1,k2,Qc3,s1,s2,pe,beq_self_eq_true];refine W.opsK1 (by kernel_rfl) ?_;intro _;simp only[wX,↓Qc,simprocAttr,hm1,hm2,k1,k2,Qc3,s1,s2,pe,beq_self_eq_true];exact W.done (Zc.ret rfl rfl rfl)
set_option maxHeartbeats 4000000 in
theorem Qxj(l:Ji){a b:V}(ha:Bm a l.dead)(hb:Bm b l.dead)(hl:l.dead.length<=9223372036854775807):Fz Tp Qf 33 [.agg (Ja l a),.agg (Ja l b)] fun r=>r= .bool true:=by refine Zp Tryz.func33 rfl ?_;have s1:=Zo ha;have s2:=Zo hb;obtain⟨m,rfl,hm⟩:=(Q5f ha hb hl).op (by rfl) (Qa (ha.frz _) (Qa (hb.frz _) rfl));have hm1:∀s H,_:=fun s H=>hm 33 0 s H rfl;obtain⟨lid,kind,owner,prev,txg,guid,key,⟨ra,rb,rc,rd,re⟩,dead⟩:=l;have pe:∀x y,Zj Tp .eql 60 x y (.agg [.int .i64 ra,.int .u32 rb,.int .u32 rc,.int .u32 rd,.int .u32 re]) (.agg [.int .i64 ra,.int .u32 rb,.int .u32 rc,.int .u32 rd,.int .u32 re])=some (.bool true):=fun x y=>Q33 (⟨ra,rb,rc,rd,re⟩:Ka);simp only[Ja];simp only[wX,↓Qc,simprocAttr,Tryz.ntmps33,hm1,s1,s2,pe,beq_self_eq_true];exact W.done (Zc.ret rfl rfl rfl)
section
variable {bv wv sv mv lv kv ov cv bv' wv' sv' mv' lv' kv' ov' cv' : V} {x : Yj}
set_option maxHeartbeats 8000000 in
theorem Q4h(h:Yh bv wv sv mv lv kv ov cv x)(h' :Yh bv' wv' sv' mv' lv' kv' ov' cv' x)(f:x.Fits):Fz Tp Qf 15 [.agg (Qy bv wv sv mv lv kv ov cv x.p),.agg (Qy bv' wv' sv' mv' lv' kv' ov' cv' x.p)] fun r=>r= .bool true:=by
 refine Zp Tryz.func15 rfl ?_;obtain⟨m,rfl,hm⟩:=(Q6t (Qd2 h f) (Qd2 h' f) x.p.epoch x.p.count).op (by rfl) (Qa (Qe5 (Qd2 h f) _ _ _) (Qa (Qe5 (Qd2 h' f) _ _ _) rfl));have hm1:∀s H,_:=fun s H=>hm 15 0 s H rfl;obtain⟨m,rfl,hm⟩:=(Q4i h.own h'.own f.own).op (by rfl) (Qa (h.own.frz _) (Qa (h'.own.frz _) rfl));have hm2:∀s H,_:=fun s H=>hm 15 0 s H rfl;obtain⟨lcs,hlc,hlv⟩:=id h.lines;obtain⟨lcs',hlc',hlv'⟩:=id h'.lines;obtain⟨ccs,hcc,hcv⟩:=id h.changes;obtain⟨ccs',hcc',hcv'⟩:=id h'.changes;obtain⟨_,_,k1⟩:=id h.keys;obtain⟨_,_,k2⟩:=id h'.keys;obtain⟨_,_,k3⟩:=id h.loaded;obtain⟨_,_,k4⟩:=id h'.loaded;obtain⟨m,rfl,hm⟩:=(Qxs h.keys h'.keys f.keys).op (by rfl) (Qa (k1.frz _) (Qa (k2.frz _) rfl));have hm3:∀s H,_:=fun s H=>hm 15 0 s H rfl;obtain⟨m,rfl,hm⟩:=(Qxs h.loaded h'.loaded f.loaded).op (by rfl) (Qa (k3.frz _) (Qa (k4.frz _) rfl));have hm4:∀s H,_:=fun s H=>hm 15 0 s H rfl;obtain⟨s1,s2,s3,s4,s5,s6,s7,s8⟩:=Qbr h;obtain⟨t1,t2,t3,t4,t5,t6,t7,t8⟩:=Qbr h';have ll:=hlv.len Zu5;have ll' :=hlv'.len Zu5;have lc:=hcv.len Zu7;have lc' :=hcv'.len Zu7;have fl:x.p.lines.length<=9223372036854775807:=f.lines;have fc:x.p.changes.length<=9223372036854775807:=f.changes;have c0:((x.p.lines.length:Int) !=(x.p.lines.length:Int))=false:=bne_self_eq_false _;have c0' :((x.p.changes.length:Int) !=(x.p.changes.length:Int))=false:=bne_self_eq_false _;have c0'' :(x.p.gen !=x.p.gen)=false:=bne_self_eq_false _;have pe:∀p q,Zj Tp .neq 60 p q (.agg [.int .i64 x.p.root.at_,.int .u32 x.p.root.birth,.int .u32 x.p.root.iv,.int .u32 x.p.root.tag,.int .u32 x.p.root.sum]) (.agg [.int .i64 x.p.root.at_,.int .u32 x.p.root.birth,.int .u32 x.p.root.iv,.int .u32 x.p.root.tag,.int .u32 x.p.root.sum])=some (.bool false):=fun p q=>Qyj x.p.root;have lines:∀i:Nat,(hi:i<x.p.lines.length)->∃a b,(∀g,ldV Tp 82 g (.iptr lcs ((i:Int).toNat*13))=some (.agg (Ja x.p.lines[i] a)))/\(∀g,ldV Tp 82 g (.iptr lcs' ((i:Int).toNat*13))=some (.agg (Ja x.p.lines[i] b)))/\
  ∀s H,callOp Qf (Qq Tp Qf) 15 0 s 33 [.agg (Ja x.p.lines[i] a),.agg (Ja x.p.lines[i] b)] H=some (.ret (.bool true),H):=fun i hi=>by
  obtain⟨a,ha,l1⟩:=hlc.ld hi;obtain⟨b,hb,l2⟩:=hlc'.ld hi;obtain⟨m,rfl,hm⟩:=(Qxj _ ha hb (f.dead _ (Zrt hi))).op (by rfl) (Qa (Qgu ha) (Qa (Qgu hb) rfl));exact⟨a,b,l1,l2,fun s H=>hm 15 0 s H rfl⟩
 have changes:∀i:Nat,(hi:i<x.p.changes.length)->∃a b,(∀g,ldV Tp 84 g (.iptr ccs ((i:Int).toNat*12))=some (.agg (Qw x.p.changes[i] a)))/\(∀g,ldV Tp 84 g (.iptr ccs' ((i:Int).toNat*12))=some (.agg (Qw x.p.changes[i] b)))/\
  ∀s H,callOp Qf (Qq Tp Qf) 15 0 s 34 [.agg (Qw x.p.changes[i] a),.agg (Qw x.p.changes[i] b)] H=some (.ret (.bool true),H):=fun i hi=>by
  obtain⟨a,hk,ha,l1⟩:=Zan hcc hi;obtain⟨b,hk',hb,l2⟩:=Zan hcc' hi;obtain⟨m,rfl,hm⟩:=(Qsj x.p.changes[i] ha hb).op (by rfl) (Qa (Bk ha _) (Qa (Bk hb _) rfl));exact⟨a,b,l1,l2,fun s H=>hm 15 0 s H rfl⟩
 simp only[Qy,Qda] at hm1⊢;simp only[wX,↓Qc,simprocAttr,Tryz.ntmps15,hm1,hm2,pe,c0,c0',c0'',ll,ll',lc,lc',s1,s2,s3,s4,s5,s6,s7,s8,t1,t2,t3,t4,t5,t6,t7,t8];refine W.ul ?_;refine W.loopS (kt:=[2,3,5]) rfl (fun i:Nat=>Q89 (.ptr 0 2 0) (.ptr 0 3 0) (.int .i64 i)) (fun _=>[[(2,.cells (Qy bv wv sv mv lv kv ov cv x.p)),(3,.cells (Qy bv' wv' sv' mv' lv' kv' ov' cv' x.p))]]) (fun i=>i<=x.p.lines.length) (fun i=>x.p.lines.length-i) ?_ 0 (Zr9 _) rfl rfl;intro i hi;simp only[Q89,Qy];have key:i<x.p.lines.length\/¬i<x.p.lines.length:=Classical.em _;rcases key with h0|h0
 . have c1:decide ((i:Int)<x.p.lines.length)=true:=Zsw (by omega);have wi:(IntKind.i64).wrap ((i:Int)+1)=((i+1:Nat):Int):=by rw[wrap_i64]<;>omega
   have at1:=hlv.at (k:= .i64) Zu5 Qjg (by decide) (i:=(i:Int)) (by omega) (by omega);have at2:=hlv'.at (k:= .i64) Zu5 Qjg (by decide) (i:=(i:Int)) (by omega) (by omega);obtain⟨a,b,l1,l2,hm5⟩:=lines i h0;simp only[wX,↓Qc,simprocAttr,c1,wi,at1,at2,l1,l2,hm5,ll,ll',lc,lc',s1,s2,s3,s4,s5,s6,s7,s8,t1,t2,t3,t4,t5,t6,t7,t8];refine W.opsK1 (by kernel_rfl) ?_;intro _;simp only[wX,↓Qc,simprocAttr,c1,wi,ll,ll',lc,lc',s1,s2,s3,s4,s5,s6,s7,s8,t1,t2,t3,t4,t5,t6,t7,t8];exact W.done ⟨i+1,rfl,rfl,by omega,by omega⟩
 have c1:decide ((i:Int)<x.p.lines.length)=false:=Zsx (by omega);simp only[wX,↓Qc,simprocAttr,c1,ll,ll',lc,lc',s1,s2,s3,s4,s5,s6,s7,s8,t1,t2,t3,t4,t5,t6,t7,t8];clear hi h0 c1;refine W.done ?_;simp only[wX,↓Qc,simprocAttr,ll,ll',lc,lc',s1,s2,s3,s4,s5,s6,s7,s8,t1,t2,t3,t4,t5,t6,t7,t8];refine W.ul ?_;refine W.loopS (kt:=[2,3,6]) rfl (fun i:Nat=>Q7n (.ptr 0 2 0) (.ptr 0 3 0) (.int .i64 i)) (fun _=>[[(2,.cells (Qy bv wv sv mv lv kv ov cv x.p)),(3,.cells (Qy bv' wv' sv' mv' lv' kv' ov' cv' x.p))]]) (fun i=>i<=x.p.changes.length) (fun i=>x.p.changes.length-i) ?_ 0 (Zr9 _) rfl rfl;intro i hi;simp only[Q7n,Qy];have key:i<x.p.changes.length\/¬i<x.p.changes.length:=Classical.em _;rcases key with h0|h0
 . have c1:decide ((i:Int)<x.p.changes.length)=true:=Zsw (by omega);have wi:(IntKind.i64).wrap ((i:Int)+1)=((i+1:Nat):Int):=by rw[wrap_i64]<;>omega
   have at1:=hcv.at (k:= .i64) Zu7 Qsq (by decide) (i:=(i:Int)) (by omega) (by omega);have at2:=hcv'.at (k:= .i64) Zu7 Qsq (by decide) (i:=(i:Int)) (by omega) (by omega);obtain⟨a,b,l1,l2,hm5⟩:=changes i h0;simp only[wX,↓Qc,simprocAttr,c1,wi,at1,at2,l1,l2,hm5,ll,ll',lc,lc',s1,s2,s3,s4,s5,s6,s7,s8,t1,t2,t3,t4,t5,t6,t7,t8];refine W.opsK1 (by kernel_rfl) ?_;intro _;simp only[wX,↓Qc,simprocAttr,c1,wi,ll,ll',lc,lc',s1,s2,s3,s4,s5,s6,s7,s8,t1,t2,t3,t4,t5,t6,t7,t8];exact W.done ⟨i+1,rfl,rfl,by omega,by omega⟩
 have c1:decide ((i:Int)<x.p.changes.length)=false:=Zsx (by omega);simp only[wX,↓Qc,simprocAttr,c1,ll,ll',lc,lc',s1,s2,s3,s4,s5,s6,s7,s8,t1,t2,t3,t4,t5,t6,t7,t8];refine W.done ?_;simp only[wX,↓Qc,simprocAttr,hm3,hm4,beq_self_eq_true,s1,s2,s3,s4,s5,s6,s7,s8,t1,t2,t3,t4,t5,t6,t7,t8];exact W.done (Zc.ret rfl rfl rfl)
end
set_option maxHeartbeats 4000000 in
theorem Q4g{pv tv dv pv' tv' dv' :V}{X:Bv}(h:Yu pv tv dv X)(h' :Yu pv' tv' dv' X)(f:X.Fits):Fz Tp Qf 7 [.agg (Qt pv tv dv X.spent),.agg (Qt pv' tv' dv' X.spent)] fun r=>r= .bool true:=by
 refine Zp Tryz.func7 rfl ?_;obtain⟨m,rfl,hm⟩:=(Q65 h.seed h'.seed X.spent).op (by rfl) (Qa (Q28 h.seed _ _) (Qa (Q28 h'.seed _ _) rfl));have hm1:∀s H,_:=fun s H=>hm 7 0 s H rfl;obtain⟨pcs,hpc,hpv⟩:=id h.pools;obtain⟨pcs',hpc',hpv'⟩:=id h'.pools;have lp:=hpv.len Zu6;have lp' :=hpv'.len Zu6;have k1:=Qkp h.stream;have k2:=Qkp h'.stream;obtain⟨s1,s2,s3⟩:=Qbt h;obtain⟨t1,t2,t3⟩:=Qbt h';have fp:X.pools.length<=9223372036854775807:=f.pools;have c0:((X.pools.length:Int) !=(X.pools.length:Int))=false:=bne_self_eq_false _;have c0' :(X.stream==X.stream)=true:=beq_self_eq_true _;have one:∀i:Nat,(hi:i<X.pools.length)->∃a b,(∀g,ldV Tp 64 g (.iptr pcs ((i:Int).toNat*19))=some (.agg a))/\(∀g,ldV Tp 64 g (.iptr pcs' ((i:Int).toNat*19))=some (.agg b))/\
  ∀s H,callOp Qf (Qq Tp Qf) 7 0 s 15 [.agg a,.agg b] H=some (.ret (.bool true),H):=fun i hi=>by
  obtain⟨bv,wv,sv,mv,lv,kv,ov,cv,hx,l1⟩:=Qeu hpc hi;obtain⟨bv',wv',sv',mv',lv',kv',ov',cv',hx',l2⟩:=Qeu hpc' hi;obtain⟨m,rfl,hm⟩:=(Q4h hx hx' (f.each _ (Zrt hi))).op (by rfl) (Qa (Qe0 hx _) (Qa (Qe0 hx' _) rfl));exact⟨_,_,l1,l2,fun s H=>hm 7 0 s H rfl⟩
 simp only[Qt];simp only[wX,↓Qc,simprocAttr,Tryz.ntmps7,hm1,lp,lp',k1,k2,Qc3,s1,s2,s3,t1,t2,t3,c0,c0'];refine W.ul ?_;refine W.loopS (kt:=[2,3,5]) rfl (fun i:Nat=>st7_4 (.ptr 0 2 0) (.ptr 0 3 0) (.int .i64 i)) (fun _=>[[(2,.cells (Qt pv tv dv X.spent)),(3,.cells (Qt pv' tv' dv' X.spent))]]) (fun i=>i<=X.pools.length) (fun i=>X.pools.length-i) ?_ 0 (Zr9 _) rfl rfl;intro i hi;simp only[st7_4,Qt];have key:i<X.pools.length\/¬i<X.pools.length:=Classical.em _;rcases key with h0|h0
 . have c1:decide ((i:Int)<X.pools.length)=true:=Zsw (by omega);have wi:(IntKind.i64).wrap ((i:Int)+1)=((i+1:Nat):Int):=by rw[wrap_i64]<;>omega
   have at1:=hpv.at (k:= .i64) Zu6 Qs6 (by decide) (i:=(i:Int)) (by omega) (by omega);have at2:=hpv'.at (k:= .i64) Zu6 Qs6 (by decide) (i:=(i:Int)) (by omega) (by omega);obtain⟨a,b,l1,l2,hm5⟩:=one i h0;simp only[wX,↓Qc,simprocAttr,c1,wi,at1,at2,l1,l2,hm5,lp,lp',s1,s2,s3,t1,t2,t3];refine W.opsK1 (by kernel_rfl) ?_;intro _;simp only[wX,↓Qc,simprocAttr,c1,wi,lp,lp',s1,s2,s3,t1,t2,t3];exact W.done ⟨i+1,rfl,rfl,by omega,by omega⟩
 have c1:decide ((i:Int)<X.pools.length)=false:=Zsx (by omega);simp only[wX,↓Qc,simprocAttr,c1,lp,lp',s1,s2,s3,t1,t2,t3];refine W.done ?_;simp only[wX,↓Qc,simprocAttr];exact W.done (Zc.ret rfl rfl rfl)
end Go.Proofs.YtpdimkonjmoadaaGreatDoor
end
