/- This file holds in one the texts LN3, LN4, LN5, DP, DQ, DR, F19; each says at its head what it proves. -/
import Derived.Test.YtjllfbejpjonnaaGreatDoorT16
import Derived.Test.YtjllfbejpjonnaaGreatDoorT18
import Derived.Test.YtjllfbejpjonnaaGreatDoorT21
import Derived.Test.YtjllfbejpjonnaaGreatDoorT22
import Derived.Test.YtjllfbejpjonnaaGreatDoorT24
import Derived.Test.YtjllfbejpjonnaaGreatDoorT25
set_option linter.unusedSimpArgs false
set_option linter.unusedVariables false
section
set_option maxRecDepth 100000
namespace Go.Proofs.YtjllfbejpjonnaaGreatDoor
open Go.AM
attribute [local irreducible] U W
theorem Qmy{l:List (List UInt8)}{m:Nat}(h:Qbh l (m:Int)=true):∀k∈l,k.length<=m:=by
 intro k hk;simp only[Qbh,Zok,Zoy,Zpp] at h;have:=h.2 k hk;simp only[Be,Zok,decide_eq_true_eq,Zpd,bne_iff_ne,not_and,not_or,ne_eq,Classical.not_not] at this;by_cases hz:k.length=0
 . omega
 . have:=this (by omega);omega
theorem Q34{x:Kc}(h:Qaz x=true)(k:List UInt8)(hk:k∈x.p.keys\/k∈x.p.loaded):k.length<=24:=by
 unfold Qaz Qah at h;split at h
 . cases h
 split at h
 case isFalse=>cases h
 split at h
 . cases h
 rename_i h3;simp only[Qgx,Zpd,not_or,Zqo,Zqp] at h3;rcases hk with hk|hk
 . exact Qmy (m:=24) h3.2.1 k hk
 . have:=Qmy (m:=16) h3.2.2.1 k hk;omega
section
variable {bv wv sv mv lv kv ov cv : V} {x : Kc}
theorem Qng(l:List Int):(Qz l).all Qiz=true:=by rw[Zor];intro x hx;simp only[Qz,Zpc] at hx;obtain⟨b,_,rfl⟩:=hx;rfl
theorem byI:byt Tp 3=some 8:=by kernel_rfl
theorem Qwj(v:V)(l:List Int)(hv:Xg v l)(hl:l.length<=1000000):Fz Tp Qg 58 [v] fun r=>Xg r l:=by
 refine Zm Tryz.func58 rfl ?_;obtain⟨hlen,⟨rfl,hn⟩|⟨f,rfl⟩⟩:=id hv
 . have h0:l=[]:=Zoz hn;subst h0;have e:∀p q,Zq Tp .eql 32 p q .nS .nS=some (.bool true):=fun p q=>rfl;simp only[wX,↓Qc,simprocAttr,Tryz.ntmps58,e];exact W.done (Q0.ret rfl rfl Qw.nil)
 . have sc:∀g,Qk g 1 (.iS (Qz l) l.length f)=some (Qz l,l.length):=fun g=>Qw.sc hv;have mt7:Qg.mt 58 7=false:=B2 (by decide) rfl;have mt5:Qg.mt 58 5=false:=B2 (by decide) rfl;by_cases h0:l=[]
   . subst h0;have ap:Qr Tp (Qg.mt 58) 0 (Qd [[]]) (some 7) 32 32 (.iS [] 0 true) (.iS (Qz []) 0 f)=some (.val (.iS [] 0 true) none):=by
      have:=sc (Qd [[]]);simp only[Zpt] at this;simp only[Qr,Zu4,sz3,byI,zc3,Ji,this];rfl
     simp only[wX,↓Qc,simprocAttr,Tryz.ntmps58,Jj Zu4,Qv,ap,mt7,mt5,Zu4,Zpt];exact W.done (Q0.ret (v:= .iS [] 0 true) (v' := .iS [] 0 true) rfl rfl (Qw.mk (cells:=[]) rfl))
   . have hp:0<l.length:=List.length_pos_iff.2 h0;have ap:Qr Tp (Qg.mt 58) 0 (Qd [[]]) (some 7) 32 32 (.iS [] 0 true) (.iS (Qz l) l.length f)=some (.val (.gS 0 7 (Qz l) l.length 1) (some (0,7,.grow l.length))):=by
      rw[Qcf Zu4 sz3 byI zc3 rfl Zu4 (sc _) hp rfl (Zw (by omega) (by omega)),Zpu,Zod,Kr mt7 (Qms (Qng l)) rfl]
     simp only[wX,↓Qc,simprocAttr,Tryz.ntmps58,Jj Zu4,Qv,ap,mt7,mt5,Zu4];refine W.done (Q0.ret (v:= .gS 0 7 (Qz l) l.length 1) (v' := .iS (Qz l) l.length false) rfl ?_ (Xg.mk l false));show(Q5 (AM.frz _ 11) (Qz l)).map _=_;rw[Qdk _ 10 (Qng l)];rfl
structure Qh8(n:Nat)(x:Kc)(lw kw ow cw:V)(ol oc ok oo:O):Prop where
 lines:∃cs,Bj n 18 13 x.p.lines.length cs lw ol/\LinesC cs x.p.lines
 changes:∃cs,Bj n 21 12 x.p.changes.length cs cw oc/\Qo cs x.p.changes x.datas
 keys:∃cs,Bj n 65 1 x.p.keys.length cs kw ok/\Kw cs x.p.keys
 loaded:∃cs,Bj n 68 1 x.p.loaded.length cs ow oo/\Kw cs x.p.loaded
structure FrC(pc z c75:List V):Prop where
 a:Qi (fun f _=>Nat.ble 3 f) pc=false
 b:Qi (fun f _=>Nat.ble 3 f) z=false
 c:Qi (fun f _=>Nat.ble 3 f) c75=false
theorem Bj.refs{fr d esz n:Nat}{cs:List V}{w:V}{o:O}(h:Bj fr d esz n cs w o){q:Nat->Nat->Bool}(hq:q fr d=false):w.refs q=false:=by
 rcases h with⟨_,_,rfl,_⟩|⟨cap,rfl,_⟩
 . rfl
 . exact hq
def Yy:List V:=[.nS,.nS,.nS,.int .u32 0,.int .u32 0,.int .u32 0,.int .i64 0,.int .u32 0,.int .u32 0,.int .u32 0,.int .u32 0,.nS,.nS,.nS,.nS,.nS,.int .i64 0,.int .i64 0,.int .u32 0]
set_option maxHeartbeats 8000000 in
theorem Qxi(A B:AM.Frame)(h:K5 bv wv sv mv lv kv ov cv x)(f:x.Fits)(hok:Qaz x=true):
 CW Tp Qg 21 [.agg (Qf bv wv sv mv lv kv ov cv x.p)] [A,B] fun r H' =>∃bv' wv' sv' mv' lw kw ow cw ol oc ok oo pc z c75,
  r= .ret (.agg (Qf bv' wv' sv' mv' lw kw ow cw x.p))/\H' =[A,B,[(1,.cells pc),(2,.cells z),(18,ol),(21,oc),(65,ok),(68,oo),(75,.cells c75)]]/\
  Z2 bv' x.blocks/\Jh wv' x.waits/\Qe sv' x.space/\Xg mv' x.p.own/\Qh8 2 x lw kw ow cw ol oc ok oo/\FrC pc z c75:=by
 refine Zu Tryz.func21 rfl ?_;have good:=Qh3 hok;obtain⟨dok,tok,_,_,_⟩:=Qer good.store;have spl:=Qe0 tok;obtain⟨m,⟨bv',wv',sv',rfl,hb,hw,hs⟩,hm⟩:=(Qwh (Qog h f) dok (by omega) x.p.epoch x.p.count).op (by rfl) (Qa (Qbl (Qog h f) _ _ _) rfl);have hm1:∀s H,_:=fun s H=>hm 21 2 s H rfl;obtain⟨mv',hmv,hm⟩:=(Qwj mv x.p.own h.own (by have:=Zab hok;omega)).op (by rfl) (Qa (h.own.frz _) rfl);have hm2:∀s H,_:=fun s H=>hm 21 2 s H rfl;obtain⟨s1,s2,s3,s4,s5,s6,s7,s8⟩:=Qia h;obtain⟨lcs,hlc,hlv⟩:=id h.lines;obtain⟨ccs,hcc,hcv⟩:=id h.changes;obtain⟨kcs,hkc,hkv⟩:=id h.keys;obtain⟨ocs,hoc,hov⟩:=id h.loaded;obtain⟨_,_,b1⟩:=id hb;obtain⟨_,_,b2⟩:=id hw;have t1:=Q4 b1;have t2:=Q4 b2;have t3:=Q4 hs;have t4:=Q4 hmv;have u1:=Q7 b1;have u2:=Q7 b2;have u3:=Q7 hs;have u4:=Q7 hmv;obtain⟨pc1,hpc1⟩:∃p,p=[bv',wv',sv',.int .u32 x.p.epoch,.int .u32 x.p.count,.int .u32 x.p.gen,.int .i64 x.p.root.at_,.int .u32 x.p.root.birth,.int .u32 x.p.root.iv,.int .u32 x.p.root.tag,.int .u32 x.p.root.sum,mv,lv,kv,ov,cv,.int .i64 x.p.logged,.int .i64 x.p.nextId,.int .u32 x.p.nextGuid]:=⟨_,rfl⟩;simp only[Qf,Yu] at hm1⊢;simp only[wX,↓Qc,simprocAttr,Tryz.ntmps21,hm1,hm2,s1,s2,s3,s4,s5,s6,s7,s8,t1,t2,t3,t4,u1,u2,u3,u4];obtain⟨lw,ol,hcl,hol,hol2⟩:=clL_op lv lcs _ hlv (by have:=good.lines;omega) hlc.pure.2 hlc.pure.1 (fn:=21) (fr:=2) (d:=18) (H:=[A,B,[(1,.cells pc1),(2,.cells Yy)]]) rfl rfl;obtain⟨cw,oc,hcc2,hoc2,hoc3⟩:=clC_op cv ccs _ hcv (Bv hok) hcc.pure.2 hcc.pure.1 (fn:=21) (fr:=2) (d:=21) (H:=[A,B,[(1,.cells pc1),(2,.cells Yy),(18,ol)]]) rfl rfl;simp only[wH,Yy,hpc1,simprocAttr,if_true,if_false] at hcl hcc2;have v1:=hol.sc;have v2:=hoc2.sc;have v3:=hol.cells;have v4:=hoc2.cells;have ll:=hol.len Zu6;have lc:=hoc2.len Zu2;simp only[wX,↓Qc,simprocAttr,hm2,hcl,hcc2,s1,s2,s3,s4,s5,s6,s7,s8,t1,t2,t3,t4,u1,u2,u3,u4,ll,lc,v1,v2,v3,v4];refine W.opsT (by
  rcases hol2 with⟨rfl,n0,rfl,rfl,rfl⟩|⟨f0,cap,rfl,rfl,rfl⟩
  all_goals rcases hoc3 with⟨rfl,n1,rfl,rfl,rfl⟩|⟨f1,cap1,rfl,rfl,rfl⟩
  all_goals kernel_rfl) ?_
 simp only[wA,↓Qc,simprocAttr,ta,wH,wZ,s1,s2,s3,s4,s5,s6,s7,s8,t1,t2,t3,t4,u1,u2,u3,u4,ll,lc,v1,v2,v3,v4];refine W.ul ?_;refine W.loop (fun(i:Nat) t H=>∃cs o,Bj 2 18 13 x.p.lines.length cs lw o/\LinesC cs x.p.lines/\Jg [1,2,27,28] t 0=Q81 (.ptr 2 1 0) (.ptr 2 2 0) (.int .i64 x.p.lines.length) (.int .i64 i)/\i<=x.p.lines.length/\
  H=[A,B,[(1,.cells (Qf bv' wv' sv' mv' lw kv ov cw x.p)),(2,.cells Yy),(18,o),(21,oc)]]) (fun i=>x.p.lines.length-i) ?_ 0 ⟨lcs,ol,hol,hlc,rfl,Zq1 _,rfl⟩
 rintro i t H ⟨cs,o,hos,hcs,ht,hi,rfl⟩;refine⟨_,_,Zx (kt:=[1,2,27,28]) rfl rfl,?_⟩;rw[ht];simp only[Q81,Qf];have key:i<x.p.lines.length\/¬i<x.p.lines.length:=Classical.em _;rcases key with h0|h0
 . obtain⟨cap,rfl,rfl⟩:∃cap,lw= .mS 2 18 0 x.p.lines.length cap 13/\o= .cells cs:=by
    rcases hos with⟨n0,_⟩|h
    . omega
    . exact h
   have c1:decide ((i:Int)<x.p.lines.length)=true:=Zrh (by omega);have wi:(IntKind.i64).wrap ((i:Int)+1)=((i+1:Nat):Int):=by have:=good.lines;rw[wrap_i64]<;>omega
   have at1:=Qir (P:=Tp) (u:=33) (e:=52) Zu6 Qin (f:=2) (s:=18) (o:=0) (len:=x.p.lines.length) (cap:=cap) (k:= .i64) (i:=(i:Int)) (by omega) (by omega);obtain⟨dv,hd1,hd2⟩:=hcs.at_ (Zn1 h0);have g1:cs[(i:Int).toNat*13+12]?=some dv:=by have:=congrArg (fun l=>l[12]?) hd1;simp only[Zoe,Zpy,J3] at this;rw[show(i:Int).toNat*13+12=i*13+12 by omega];simpa using this
   obtain⟨m,hm',hm⟩:=(Qu3 dv _ hd2 (by have:=Q65 hok _ (Zp8 h0);omega)).op (by rfl) (Qa (hd2.frz _) rfl);have hm3:∀s H,_:=fun s H=>hm 21 2 s H rfl;have q1:=Q4 hd2;have q2:=Q4 hm';have q3:=Q7 hm';have hcl' :=hcs.len;have le1:(i:Int).toNat*13+12+1<=cs.length:=by omega
   have hset:=hcs.set h0 hm';rw[show i*13+12=(i:Int).toNat*13+12 by omega] at hset;simp only[wA,↓Qc,simprocAttr,c1,wi,at1,g1,hm3,q1,q2,q3,le1,ta,wH,wZ,s1,s2,s3,s4,s5,s6,s7,s8,t1,t2,t3,t4,u1,u2,u3,u4,ll,lc,v1,v2,v3,v4];refine W.opsT (by kernel_rfl) ?_;simp only[wA,↓Qc,simprocAttr,c1,wi,at1,g1,hm3,q1,q2,q3,le1,ta,wH,wZ,s1,s2,s3,s4,s5,s6,s7,s8,t1,t2,t3,t4,u1,u2,u3,u4,ll,lc,v1,v2,v3,v4];exact W.done ⟨i+1,⟨_,_,.inr ⟨_,rfl,rfl⟩,hset,rfl,by omega,rfl⟩,by omega⟩
 . have c1:decide ((i:Int)<x.p.lines.length)=false:=Zri (by omega);simp only[wA,↓Qc,simprocAttr,c1,ta,wH,wZ,s1,s2,s3,s4,s5,s6,s7,s8,t1,t2,t3,t4,u1,u2,u3,u4,ll,lc,v1,v2,v3,v4];clear hi h0 c1 ht;refine W.done ?_;simp only[wA,↓Qc,simprocAttr,ta,wH,wZ,s1,s2,s3,s4,s5,s6,s7,s8,t1,t2,t3,t4,u1,u2,u3,u4,ll,lc,v1,v2,v3,v4];refine W.ul ?_;refine W.loop (fun(i:Nat) t H=>∃cc oz,Bj 2 21 12 x.p.changes.length cc cw oz/\Qo cc x.p.changes x.datas/\Jg [1,2,46,47] t 0=Zat (.ptr 2 1 0) (.ptr 2 2 0) (.int .i64 x.p.changes.length) (.int .i64 i)/\i<=x.p.changes.length/\
    H=[A,B,[(1,.cells (Qf bv' wv' sv' mv' lw kv ov cw x.p)),(2,.cells Yy),(18,o),(21,oz)]]) (fun i=>x.p.changes.length-i) ?_ 0 ⟨ccs,oc,hoc2,hcc,rfl,Zq1 _,rfl⟩
   rintro i t H ⟨cc,oz,hoz,hcd,ht,hi,rfl⟩;refine⟨_,_,Zx (kt:=[1,2,46,47]) rfl rfl,?_⟩;rw[ht];simp only[Zat,Qf];have key:i<x.p.changes.length\/¬i<x.p.changes.length:=Classical.em _;have pch:=Bv hok;rcases key with h0|h0
   . obtain⟨cap1,rfl,rfl⟩:∃cap1,cw= .mS 2 21 0 x.p.changes.length cap1 12/\oz= .cells cc:=by
      rcases hoz with⟨n0,_⟩|h
      . omega
      . exact h
     have c1:decide ((i:Int)<x.p.changes.length)=true:=Zrh (by omega);have wi:(IntKind.i64).wrap ((i:Int)+1)=((i+1:Nat):Int):=by rw[wrap_i64]<;>omega
     have at1:=Qir (P:=Tp) (u:=34) (e:=43) Zu2 Qdq (f:=2) (s:=21) (o:=0) (len:=x.p.changes.length) (cap:=cap1) (k:= .i64) (i:=(i:Int)) (by omega) (by omega);obtain⟨dv,hd1,hi2,hd2,hd3⟩:=hcd.at2 h0;have g1:cc[(i:Int).toNat*12+6]?=some dv:=by have:=congrArg (fun l=>l[6]?) hd1;simp only[Zoe,Zpy,Ql] at this;rw[show(i:Int).toNat*12+6=i*12+6 by omega];simpa using this
     have mn:=Qw8 (good.change _ (Zp8 h0));obtain⟨m,hm',hm⟩:=(Qij dv _ hd2 (by omega)).op (by rfl) (Qa (hd2.frz _) rfl);have hm3:∀s H,_:=fun s H=>hm 21 2 s H rfl;have q1:=Q4 hd2;have q2:=Q4 hm';have q3:=Q7 hm';have hcl' :=hcd.toC.len;have le1:(i:Int).toNat*12+6+1<=cc.length:=by omega
     have hset:=hcd.set hi2 hm';rw[show i*12+6=(i:Int).toNat*12+6 by omega] at hset;simp only[wA,↓Qc,simprocAttr,c1,wi,at1,g1,hm3,q1,q2,q3,le1,ta,wH,wZ,s1,s2,s3,s4,s5,s6,s7,s8,t1,t2,t3,t4,u1,u2,u3,u4,ll,lc,v1,v2,v3,v4];refine W.opsT (by kernel_rfl) ?_;simp only[wA,↓Qc,simprocAttr,c1,wi,at1,g1,hm3,q1,q2,q3,le1,ta,wH,wZ,s1,s2,s3,s4,s5,s6,s7,s8,t1,t2,t3,t4,u1,u2,u3,u4,ll,lc,v1,v2,v3,v4];exact W.done ⟨i+1,⟨_,_,.inr ⟨_,rfl,rfl⟩,hset,rfl,by omega,rfl⟩,by omega⟩
   . have c1:decide ((i:Int)<x.p.changes.length)=false:=Zri (by omega);simp only[wA,↓Qc,simprocAttr,c1,ta,wH,wZ,s1,s2,s3,s4,s5,s6,s7,s8,t1,t2,t3,t4,u1,u2,u3,u4,ll,lc,v1,v2,v3,v4];clear hi h0 c1 ht;refine W.done ?_;obtain⟨kw,ok,hck,hok1,hok2⟩:=Q7w kv kcs _ hkv (by have:=good.keys;omega) hkc.pure.2 hkc.pure.1 (fn:=21) (fr:=2) (d:=65) (H:=[A,B,[(1,.cells (Qf bv' wv' sv' mv' lw kv ov cw x.p)),(2,.cells Yy),(18,o),(21,oz)]]) rfl rfl;obtain⟨ow,oo,hco,hoo1,hoo2⟩:=Q7w ov ocs _ hov (by have:=good.loaded;omega) hoc.pure.2 hoc.pure.1 (fn:=21) (fr:=2) (d:=68) (H:=[A,B,[(1,.cells (Qf bv' wv' sv' mv' lw kv ov cw x.p)),(2,.cells Yy),(18,o),(21,oz),(65,ok)]]) rfl rfl;have k8:=good.keys;have o8:=good.loaded;rcases hok2 with⟨_,n2,_⟩|⟨f2,cap2,rfl,rfl,rfl⟩
     . omega
     rcases hoo2 with⟨_,n2,_⟩|⟨f3,cap3,rfl,rfl,rfl⟩
     . omega
     rw[k8] at*;rw[o8] at*;simp only[wH,Qf,simprocAttr,if_true,if_false] at hck hco;have mt75:Qg.mt 21 75=true:=rfl;have len115:∀g f s cap,Ku Tp g 115 (.mS f s 0 2 cap 1)=some (.int .i64 2):=fun g f s cap=>Qk5 Tryz.underlying115 g;simp only[wA,↓Qc,simprocAttr,hck,hco,mt75,ta,wH,wZ,s1,s2,s3,s4,s5,s6,s7,s8,t1,t2,t3,t4,u1,u2,u3,u4,ll,lc,v1,v2,v3,v4];refine W.opsT (by kernel_rfl) ?_;simp only[wX,↓Qc,simprocAttr,hck,hco,mt75,len115,Tryz.underlying115,sz22,zc22,s1,s2,s3,s4,s5,s6,s7,s8,t1,t2,t3,t4,u1,u2,u3,u4,ll,lc,v1,v2,v3,v4];refine W.ul ?_;refine W.loop (fun(j:Nat) t H=>∃ck co,Kw ck x.p.keys/\Kw co x.p.loaded/\Jg [1,2,75,76,77] t 0=Q3i (.ptr 2 1 0) (.ptr 2 2 0) (.mS 2 75 0 2 (some 2) 1) (.int .i64 2) (.int .i64 j)/\j<=2/\
      H=[A,B,[(1,.cells (Qf bv' wv' sv' mv' lw (.mS 2 65 0 8 cap2 1) (.mS 2 68 0 8 cap3 1) cw x.p)),(2,.cells Yy),(18,o),(21,oz),(65,.cells ck),(68,.cells co),(75,.cells [.mS 2 65 0 8 cap2 1,.mS 2 68 0 8 cap3 1])]]) (fun j=>2-j) ?_ 0 ⟨kcs,ocs,hkc,hoc,rfl,by omega,rfl⟩
     rintro j t H ⟨ck,co,hck1,hco1,ht,hj,rfl⟩;refine⟨_,_,Zx (kt:=[1,2,75,76,77]) rfl rfl,?_⟩;rw[ht];simp only[Q3i,Qf];have at75:=fun(q:Nat) (hq:q<2)=>Qir (P:=Tp) (u:=115) (e:=22) Tryz.underlying115 sz22 (f:=2) (s:=75) (o:=0) (len:=2) (cap:=some 2) (k:= .i64) (i:=(q:Int)) (by omega) (by omega);have a0:Qm Tp 115 (.mS 2 75 0 2 (some 2) 1) (.int .i64 0)=some (.ptr 2 75 0):=by simpa using at75 0 (by omega)
     have a1:Qm Tp 115 (.mS 2 75 0 2 (some 2) 1) (.int .i64 1)=some (.ptr 2 75 1):=by simpa using at75 1 (by omega)
     have len2:∀g f s cap,Ku Tp g 22 (.mS f s 0 8 cap 1)=some (.int .i64 8):=fun g f s cap=>Qk5 Zu1 g;have jc:j=0\/j=1\/j=2:=by omega
     rcases jc with rfl|rfl|rfl
     . simp only[wX,↓Qc,simprocAttr,a0,a1,len2,s1,s2,s3,s4,s5,s6,s7,s8,t1,t2,t3,t4,u1,u2,u3,u4,ll,lc,v1,v2,v3,v4];refine W.ul ?_;refine W.loop (fun(i:Nat) t H=>∃cr,Kw cr x.p.keys/\Jg [1,2,6,75,76,77,81,82,83] t 0=Qof (.ptr 2 1 0) (.ptr 2 2 0) (.mS 2 65 0 8 cap2 1) (.mS 2 75 0 2 (some 2) 1) (.int .i64 2) (.int .i64 0) (.mS 2 65 0 8 cap2 1) (.int .i64 8) (.int .i64 i)/\i<=8/\
        H=[A,B,[(1,.cells (Qf bv' wv' sv' mv' lw (.mS 2 65 0 8 cap2 1) (.mS 2 68 0 8 cap3 1) cw x.p)),(2,.cells Yy),(18,o),(21,oz),(65,.cells cr),(68,.cells co),(75,.cells [.mS 2 65 0 8 cap2 1,.mS 2 68 0 8 cap3 1])]]) (fun i=>8-i) ?_ 0 ⟨ck,hck1,rfl,by omega,rfl⟩
       rintro i t H ⟨cr,hcr,ht,hi,rfl⟩;refine⟨_,_,Zx (kt:=[1,2,6,75,76,77,81,82,83]) rfl rfl,?_⟩;rw[ht];simp only[Qof,Qf];have key:i<8\/¬i<8:=Classical.em _;rcases key with h0|h0
       . have c1:decide ((i:Int)<8)=true:=Zrh (by omega);have wi:(IntKind.i64).wrap ((i:Int)+1)=((i+1:Nat):Int):=by rw[wrap_i64]<;>omega
         have at1:=Qir (P:=Tp) (u:=22) (e:=26) Zu1 Qau (f:=2) (s:=65) (o:=0) (len:=8) (cap:=cap2) (k:= .i64) (i:=(i:Int)) (by omega) (by omega);have hli:i<x.p.keys.length:=by rw[good.keys];exact h0
         obtain⟨dv,hd1,hd2⟩:=hcr.at_ hli;have g1:cr[(i:Int).toNat*1]?=some dv:=by simpa using hd1
         have g2:cr[(i:Int).toNat]?=some dv:=by simpa using hd1
         have hlb:x.p.keys[i].length<=1000000:=by have:=Q34 hok (x.p.keys[i]) (by first|exact .inl (Zp8 hli)|exact .inr (Zp8 hli));omega
         obtain⟨m,hm',hm⟩:=(Qij dv _ hd2 hlb).op (by rfl) (Qa (hd2.frz _) rfl);have hm3:∀s H,_:=fun s H=>hm 21 2 s H rfl;have q1:=Q4 hd2;have q2:=Q4 hm';have q3:=Q7 hm';have hcl' :=hcr.len;have le1:(i:Int).toNat+1<=cr.length:=by omega
         have le2:(i:Int).toNat*1+1<=cr.length:=by omega
         have hset:=hcr.set hli hm';have hset' :Kw (splice cr ((i:Int).toNat) [m]) x.p.keys:=by simpa using hset
         simp only[wA,↓Qc,simprocAttr,c1,wi,at1,g1,g2,hm3,q1,q2,q3,le1,le2,ta,wH,wZ,s1,s2,s3,s4,s5,s6,s7,s8,t1,t2,t3,t4,u1,u2,u3,u4,ll,lc,v1,v2,v3,v4];exact W.done ⟨i+1,⟨_,hset',rfl,by omega,rfl⟩,by omega⟩
       . have c1:decide ((i:Int)<8)=false:=Zri (by omega);simp only[wA,↓Qc,simprocAttr,c1,ta,wH,wZ,s1,s2,s3,s4,s5,s6,s7,s8,t1,t2,t3,t4,u1,u2,u3,u4,ll,lc,v1,v2,v3,v4];refine W.done ?_;simp only[wA,↓Qc,simprocAttr,ta,wH,wZ,s1,s2,s3,s4,s5,s6,s7,s8,t1,t2,t3,t4,u1,u2,u3,u4,ll,lc,v1,v2,v3,v4];exact W.done ⟨1,⟨_,_,hcr,hco1,rfl,by omega,rfl⟩,by omega⟩
     . simp only[wX,↓Qc,simprocAttr,a0,a1,len2,s1,s2,s3,s4,s5,s6,s7,s8,t1,t2,t3,t4,u1,u2,u3,u4,ll,lc,v1,v2,v3,v4];refine W.ul ?_;refine W.loop (fun(i:Nat) t H=>∃cr,Kw cr x.p.loaded/\Jg [1,2,6,75,76,77,81,82,83] t 0=Qof (.ptr 2 1 0) (.ptr 2 2 0) (.mS 2 68 0 8 cap3 1) (.mS 2 75 0 2 (some 2) 1) (.int .i64 2) (.int .i64 1) (.mS 2 68 0 8 cap3 1) (.int .i64 8) (.int .i64 i)/\i<=8/\
        H=[A,B,[(1,.cells (Qf bv' wv' sv' mv' lw (.mS 2 65 0 8 cap2 1) (.mS 2 68 0 8 cap3 1) cw x.p)),(2,.cells Yy),(18,o),(21,oz),(65,.cells ck),(68,.cells cr),(75,.cells [.mS 2 65 0 8 cap2 1,.mS 2 68 0 8 cap3 1])]]) (fun i=>8-i) ?_ 0 ⟨co,hco1,rfl,by omega,rfl⟩
       rintro i t H ⟨cr,hcr,ht,hi,rfl⟩;refine⟨_,_,Zx (kt:=[1,2,6,75,76,77,81,82,83]) rfl rfl,?_⟩;rw[ht];simp only[Qof,Qf];have key:i<8\/¬i<8:=Classical.em _;rcases key with h0|h0
       . have c1:decide ((i:Int)<8)=true:=Zrh (by omega);have wi:(IntKind.i64).wrap ((i:Int)+1)=((i+1:Nat):Int):=by rw[wrap_i64]<;>omega
         have at1:=Qir (P:=Tp) (u:=22) (e:=26) Zu1 Qau (f:=2) (s:=68) (o:=0) (len:=8) (cap:=cap3) (k:= .i64) (i:=(i:Int)) (by omega) (by omega);have hli:i<x.p.loaded.length:=by rw[good.loaded];exact h0
         obtain⟨dv,hd1,hd2⟩:=hcr.at_ hli;have g1:cr[(i:Int).toNat*1]?=some dv:=by simpa using hd1
         have g2:cr[(i:Int).toNat]?=some dv:=by simpa using hd1
         have hlb:x.p.loaded[i].length<=1000000:=by have:=Q34 hok (x.p.loaded[i]) (by first|exact .inl (Zp8 hli)|exact .inr (Zp8 hli));omega
         obtain⟨m,hm',hm⟩:=(Qij dv _ hd2 hlb).op (by rfl) (Qa (hd2.frz _) rfl);have hm3:∀s H,_:=fun s H=>hm 21 2 s H rfl;have q1:=Q4 hd2;have q2:=Q4 hm';have q3:=Q7 hm';have hcl' :=hcr.len;have le1:(i:Int).toNat+1<=cr.length:=by omega
         have le2:(i:Int).toNat*1+1<=cr.length:=by omega
         have hset:=hcr.set hli hm';have hset' :Kw (splice cr ((i:Int).toNat) [m]) x.p.loaded:=by simpa using hset
         simp only[wA,↓Qc,simprocAttr,c1,wi,at1,g1,g2,hm3,q1,q2,q3,le1,le2,ta,wH,wZ,s1,s2,s3,s4,s5,s6,s7,s8,t1,t2,t3,t4,u1,u2,u3,u4,ll,lc,v1,v2,v3,v4];exact W.done ⟨i+1,⟨_,hset',rfl,by omega,rfl⟩,by omega⟩
       . have c1:decide ((i:Int)<8)=false:=Zri (by omega);simp only[wA,↓Qc,simprocAttr,c1,ta,wH,wZ,s1,s2,s3,s4,s5,s6,s7,s8,t1,t2,t3,t4,u1,u2,u3,u4,ll,lc,v1,v2,v3,v4];refine W.done ?_;simp only[wA,↓Qc,simprocAttr,ta,wH,wZ,s1,s2,s3,s4,s5,s6,s7,s8,t1,t2,t3,t4,u1,u2,u3,u4,ll,lc,v1,v2,v3,v4];exact W.done ⟨2,⟨_,_,hck1,hcr,rfl,by omega,rfl⟩,by omega⟩
     . simp only[wX,↓Qc,simprocAttr,s1,s2,s3,s4,s5,s6,s7,s8,t1,t2,t3,t4,u1,u2,u3,u4,ll,lc,v1,v2,v3,v4];refine W.done ?_;have z1:19<=Yy.length:=by decide
       have z2:List.drop 19 Yy=[]:=rfl;simp only[wX,↓Qc,simprocAttr,z1,z2,s1,s2,s3,s4,s5,s6,s7,s8,t1,t2,t3,t4,u1,u2,u3,u4,ll,lc,v1,v2,v3,v4];refine W.done (End.ret (v:= .agg (Qf bv' wv' sv' mv' lw (.mS 2 65 0 8 cap2 1) (.mS 2 68 0 8 cap3 1) cw x.p)) ?_ ?_)
       . exact Qif rfl rfl rfl (by rw[rd36];rfl)
       . rw[Zj (by simp[V.refs,Qi,Qf])];have hrf:Qi (fun f _=>Nat.ble 3 f) (Qf bv' wv' sv' mv' lw (.mS 2 65 0 8 cap2 1) (.mS 2 68 0 8 cap3 1) cw x.p)=false:=by
          have n1:=fun q=>Qw.noRefs b1 q;have n2:=fun q=>Qw.noRefs b2 q;have n3:=fun q=>Qw.noRefs hs q;have n4:=fun q=>Qw.noRefs hmv q;have n5:=Bj.refs hos (q:=fun f _=>Nat.ble 3 f) rfl;have n6:=Bj.refs hoz (q:=fun f _=>Nat.ble 3 f) rfl;simp only[Qf,Qi,V.refs,n1,n2,n3,n4,n5,n6,Zqs];rfl
         refine⟨bv',wv',sv',mv',_,_,_,_,_,_,_,_,_,_,_,rfl,rfl,hb,hw,hs,hmv,⟨⟨cs,hos,hcs⟩,⟨cc,hoz,hcd⟩,⟨ck,.inr ⟨cap2,by rw[good.keys],rfl⟩,hck1⟩,⟨co,.inr ⟨cap3,by rw[good.loaded],rfl⟩,hco1⟩⟩,⟨hrf,hrf,rfl⟩⟩
end
end Go.Proofs.YtjllfbejpjonnaaGreatDoor
namespace Go.Proofs.YtjllfbejpjonnaaGreatDoor
open Go.AM
attribute [local irreducible] U W
theorem Qxj(l:Zy)(dv:V)(hd:Qa5 dv l.dead)(id:Int):Fz Tp Qg 56 [.agg (J3 l dv),.iptr [.int .i64 id] 0] fun r=>r= .bool (l.id==id):=by refine Zm Tryz.func56 rfl ?_;have sc:=Q4 hd;obtain⟨lid,kind,owner,prev,txg,guid,key,root,dead⟩:=l;obtain⟨ra,rb,rc,rd,re⟩:=root;simp only[J3];simp only[wX,↓Qc,simprocAttr,Tryz.ntmps56,sc];exact W.done (Q0.ret rfl rfl rfl)
theorem Q19(v:V)(l:List Zy)(cs:List V)(hc:LinesC cs l)(hv:Qw 13 v cs l.length)(hl:l.length<=9223372036854775807)(id:Int):
 CW Tp Qg 55 [v,.func (.func 56) [] [.iptr [.int .i64 id] 0]] [] fun r H=>r= .ret (.int .i64 (Q8 (fun x=>x.id==id) 0 l)):=by
 refine Zu Tryz.func55 rfl ?_;have len:=hv.len Zu6;generalize hp:(fun x:Zy=>x.id==id)=p;simp only[wX,↓Qc,simprocAttr,Tryz.ntmps55,len];refine W.ul ?_;refine W.loopS (kt:=[0,1,7,8]) rfl (fun i:Nat=>Qvj v (.func (.func 56) [] [.iptr [.int .i64 id] 0]) (.int .i64 l.length) (.int .i64 i)) (fun _=>[[]]) (fun i=>i<=l.length/\Q8 p i (l.drop i)=Q8 p 0 l) (fun i=>l.length-i) ?_ 0 ⟨by omega,rfl⟩ rfl rfl;rintro i ⟨hi,hR⟩;simp only[Qvj];by_cases h:i<l.length
 . have c1:decide ((i:Int)<l.length)=true:=Zrh (by omega);have at1:=hv.at (k:= .i64) Zu6 Qin (by decide) (i:=(i:Int)) (by omega) (by omega);obtain⟨dv,hdv,ld⟩:=hc.ld h;have ld1:∀g,ldV Tp 52 g (.iptr cs ((i:Int).toNat*13))=_:=ld;have w1:(IntKind.i64).wrap ((i:Int)+1)=((i+1:Nat):Int):=by rw[wrap_i64]<;>omega
   obtain⟨m,rfl,hm⟩:=(Qxj l[i] dv hdv id).op (by rfl) (Qa (Qks hdv) (Qa rfl rfl));have hm1:∀s H,_:=fun s H=>hm 55 0 s H rfl;have e:(l[i].id==id)=p l[i]:=by rw[<-hp]
   rw[e] at hm1;have hS:Q8 p i (l.drop i)=if p l[i] then(i:Int) else Q8 p (i+1) (l.drop (i+1)):=by rw[Zqt h];rfl
   rw[hR] at hS;simp only[wX,↓Qc,simprocAttr,c1,at1,ld1,hm1];refine W.ite ?_ ?_<;>intro h2<;>simp only[wA,↓Qc,simprocAttr,ta,wH,w1]
   . refine W.done ?_;simp only[wA,↓Qc,simprocAttr];refine W.done (End.ret (v:= .int .i64 (Q8 p 0 l)) ?_ rfl);rw[hS,h2];rfl
   . refine W.done ⟨i+1,rfl,rfl,⟨by omega,?_⟩,by omega⟩;rw[hS,h2];rfl
 . have c1:decide ((i:Int)<l.length)=false:=Zri (by omega);simp only[wA,↓Qc,simprocAttr,c1];refine W.done ?_;simp only[wA,↓Qc,simprocAttr];refine W.done (End.ret (v:= .int .i64 (Q8 p 0 l)) ?_ rfl);rw[<-hR,Zqe (by omega)];rfl
theorem Qox{v v' :V}{l:List Zy}{cs:List V}(hc:LinesC cs l)(hv:Qw 13 v' cs l.length)(hl:l.length<=9223372036854775807)(id:Int){fr:Nat}{d:Option Nat}{H:Heap}(hf:frz (Qd H) depth v=some v'):
 callOp Qg (Qn Tp Qg) 20 fr d 55 [v,.func (.func 56) [] [.iptr [.int .i64 id] 0]] H=some (.ret (.int .i64 (Q8 (fun x=>x.id==id) 0 l)),H):=by
 obtain⟨r,H',e1,rfl⟩:=Q19 v' l cs hc hv hl id;exact Qee rfl rfl rfl rfl (Qa hf (Qa rfl rfl)) e1 rfl
def RLp(cs:List V)(x:Kc)(id:Int)(r:V):Prop:=(r= .nP/\∀l∈x.p.lines,l.id≠id)\/∃i,∃h:i<x.p.lines.length,x.p.lines[i].id=id/\r= .iptr cs (i*13)
theorem Qf0{α:Type}(p:α->Bool):∀(l:List α) (k:Nat),Q8 p k l= -1->∀a∈l,p a=false
 |[],_,_,a,h=>by cases h
 |x::r,k,h,a,ha=>by
  have e:Q8 p k (x::r)=if p x=true then(k:Int) else Q8 p (k+1) r:=rfl
  rw[e] at h;split at h
  . omega
  . rename_i hx;rcases Zph.1 ha with rfl|h2
    . simpa using hx
    . exact Qf0 p r (k+1) h a h2
section
variable {bv wv sv mv lv kv ov cv : V} {x : Kc}
theorem Q01(h:K5 bv wv sv mv lv kv ov cv x)(f:x.Fits)(cs:List V)(hc:LinesC cs x.p.lines)(hv:Qw 13 lv cs x.p.lines.length)(id:Int):
 Fz Tp Qg 20 [.agg (Qf bv wv sv mv lv kv ov cv x.p),.int .i64 id] (RLp cs x id):=by
 refine Zm Tryz.func20 rfl ?_;have hm2:∀d H,callOp Qg (Qn Tp Qg) 20 0 d _ _ H=_:=fun d H=>Qox (fr:=0) (d:=d) (H:=H) hc hv f.lines id (hv.frz _);obtain⟨s1,s2,s3,s4,s5,s6,s7,s8⟩:=Qia h;simp only[Qf];rcases Qby (fun y:Zy=>y.id==id) x.p.lines 0 with h1|⟨i,hi,h1,h2⟩
 . rw[h1] at hm2;simp only[wX,↓Qc,simprocAttr,Tryz.ntmps20,hm2,s1,s2,s3,s4,s5,s6,s7,s8];refine W.done (Q0.ret (v:= .nP) rfl rfl (.inl ⟨rfl,fun l hl=>?_⟩));have:=Qf0 _ _ _ h1 l hl;simpa using this
 . rw[h1,Zod] at hm2;have c1:decide ((i:Int)<0)=false:=by simp
   have fl:=f.lines;have at1:=hv.at (k:= .i64) Zu6 Qin (by decide) (i:=(i:Int)) (by omega) (by omega);simp only[wX,↓Qc,simprocAttr,Tryz.ntmps20,hm2,c1,at1,s1,s2,s3,s4,s5,s6,s7,s8];refine W.done (Q0.ret (v:= .iptr cs ((i:Int).toNat*13)) rfl rfl (.inr ⟨i,hi,by simpa using h2,by simp⟩))
end
theorem Q2e{bv wv sv mv kw ow cw:V}{p:Kx}{cs:List V}{cap:Option Nat}{C F1 F2 F3:AM.Frame}(hs:bv.scalar=true/\wv.scalar=true/\sv.scalar=true/\mv.scalar=true/\kw.scalar=true/\ow.scalar=true/\cw.scalar=true)
 (hc:LinesC cs p.lines)(hcl:cs.length=p.lines.length*13)(hl:p.lines.length<=65536)(id:Int)(hin:∃i,∃h:i<p.lines.length,p.lines[i].id=id)(hg:Qd [C,F1,F2,F3] 2 18=some (.cells cs))(hW:WF [C,F1,F2,F3])
 (hfz:∀g:Get,g 2 18=some (.cells cs)->∃v',frz g depth (.mS 2 18 0 p.lines.length cap 13)=some v' /\Qw 13 v' cs p.lines.length):
 CW Tp Qg 20 [.agg (Qf bv wv sv mv (.mS 2 18 0 p.lines.length cap 13) kw ow cw p),.int .i64 id] [C,F1,F2,F3] fun r H' =>H' =[C,F1,F2,F3]/\∃i,∃h:i<p.lines.length,p.lines[i].id=id/\r= .ret (.ptr 2 18 (i*13)):=by
 refine Zu Tryz.func20 rfl ?_;obtain⟨s1,s2,s3,s4,s5,s6,s7⟩:=hs;rcases Qby (fun y:Zy=>y.id==id) p.lines 0 with h1|⟨i,hi,h1,h2⟩
 . obtain⟨i,hi,he⟩:=hin;have:=Qf0 _ _ _ h1 p.lines[i] (Zp8 hi);rw[he] at this;simp at this
 . have hm2:∀d (F4:AM.Frame),callOp Qg (Qn Tp Qg) 20 4 d 55 [.mS 2 18 0 p.lines.length cap 13,.func (.func 56) [] [.iptr [.int .i64 id] 0]] [C,F1,F2,F3,F4]=some (.ret (.int .i64 i),[C,F1,F2,F3,F4]):=fun d F4=>by
    obtain⟨v',e1,e2⟩:=hfz (Qd [C,F1,F2,F3,F4]) hg;have:=Qox (fr:=4) (d:=d) hc e2 (by omega) id e1;rwa[h1,Zod] at this
   have c1:decide ((i:Int)<0)=false:=by simp
   have at1:=Qir (P:=Tp) (u:=33) (e:=52) Zu6 Qin (f:=2) (s:=18) (o:=0) (len:=p.lines.length) (cap:=cap) (k:= .i64) (i:=(i:Int)) (by omega) (by omega);have st:(0+(i:Int).toNat*13)=i*13:=by omega
   rw[st] at at1;have pop:∀(X:AM.Frame),Yk 4 (.ptr 2 18 (i*13)) [C,F1,F2,F3,X]=[C,F1,F2,F3]:=fun X=>Zf (H:=[C,F1,F2,F3]) (G:=[X]) (v:= .ptr 2 18 (i*13)) rfl hW;simp only[Qf];simp only[wX,↓Qc,simprocAttr,Tryz.ntmps20,hm2,c1,at1,s1,s2,s3,s4,s5,s6,s7];exact W.done (End.ret (v:= .ptr 2 18 (i*13)) rfl ⟨pop _,i,hi,by simpa using h2,rfl⟩)
end Go.Proofs.YtjllfbejpjonnaaGreatDoor
namespace Go.Proofs.YtjllfbejpjonnaaGreatDoor
open Go.AM
attribute [local irreducible] U W
def Qx(pc:List V)(id many e:Int):List V:=pc++[.int .i64 id,.int .i64 many,.int .i64 e]
def Qbm(l:List Qp)(id:Int):Nat:=(l.filter fun c=>c.set==id).length
theorem Qy0{l:List Qp}{i:Nat}(h:i<l.length)(id:Int):Qbm (l.take (i+1)) id=Qbm (l.take i) id+if l[i].set==id then 1 else 0:=by unfold Qbm;rw[Zqm h,Zpv,Zom];congr 1;by_cases c:l[i].set==id<;>simp[c]
section
variable {bv wv sv mv lv kv ov cv : V} {x : Kc}
theorem Qe7(h:K5 bv wv sv mv lv kv ov cv x)(q:Nat->Nat->Bool):Qi q (Qf bv wv sv mv lv kv ov cv x.p)=false:=by obtain⟨_,_,h1⟩:=h.blocks;obtain⟨_,_,h2⟩:=h.waits;obtain⟨_,_,h5⟩:=h.lines;obtain⟨_,_,h6⟩:=h.keys;obtain⟨_,_,h7⟩:=h.loaded;obtain⟨_,_,h8⟩:=h.changes;simp only[Qf,Qi,V.refs,h1.noRefs,h2.noRefs,Qw.noRefs h.space,Qw.noRefs h.own,h5.noRefs,h6.noRefs,h7.noRefs,h8.noRefs,Zqs]
theorem Qw9(h:K5 bv wv sv mv lv kv ov cv x)(q:Nat->Nat->Bool)(a b c:Int):Qi q (Qx (Qf bv wv sv mv lv kv ov cv x.p) a b c)=false:=by obtain⟨_,_,h1⟩:=h.blocks;obtain⟨_,_,h2⟩:=h.waits;obtain⟨_,_,h5⟩:=h.lines;obtain⟨_,_,h6⟩:=h.keys;obtain⟨_,_,h7⟩:=h.loaded;obtain⟨_,_,h8⟩:=h.changes;simp only[Qx,Qf,Zo8,Zpu,Qi,V.refs,h1.noRefs,h2.noRefs,Qw.noRefs h.space,Qw.noRefs h.own,h5.noRefs,h6.noRefs,h7.noRefs,h8.noRefs,Zqs]
theorem Qt6(l:List Qp)(id:Int):Qbm l id<=l.length:=List.length_filter_le _ _
theorem Qwt(h:Qaz x=true):0<=x.p.logged/\x.p.logged<=8:=by
 unfold Qaz Qah at h;split at h
 . cases h
 split at h
 case isFalse=>cases h
 split at h
 . cases h
 rename_i h3;simp only[Qgx,Zpd,not_or,Zqo,Zqp,decide_eq_true_eq,decide_eq_false_iff_not] at h3;omega
theorem Qeo{bv' wv' sv' mv' lw kw ow cw:V}{ol oc ok oo:O}{m:Nat}(q1:Z2 bv' x.blocks)(q2:Jh wv' x.waits)(q3:Qe sv' x.space)(q4:Xg mv' x.p.own)(q5:Qh8 m x lw kw ow cw ol oc ok oo):
 bv'.scalar=true/\wv'.scalar=true/\sv'.scalar=true/\mv'.scalar=true/\lw.scalar=true/\kw.scalar=true/\ow.scalar=true/\cw.scalar=true/\
 bv'.cells=some [bv']/\wv'.cells=some [wv']/\sv'.cells=some [sv']/\mv'.cells=some [mv']/\lw.cells=some [lw]/\kw.cells=some [kw]/\ow.cells=some [ow]/\cw.cells=some [cw]:=by
 obtain⟨_,_,a1⟩:=q1;obtain⟨_,_,a2⟩:=q2;obtain⟨_,b1,_⟩:=q5.lines;obtain⟨_,b2,_⟩:=q5.keys;obtain⟨_,b3,_⟩:=q5.loaded;obtain⟨_,b4,_⟩:=q5.changes;exact⟨Q4 a1,Q4 a2,Q4 q3,Q4 q4,b1.sc,b2.sc,b3.sc,b4.sc,Q7 a1,Q7 a2,Q7 q3,Q7 q4,b1.cells,b2.cells,b3.cells,b4.cells⟩
structure Q3f(x:Kc)(id many e:Int)(bv' wv' sv' mv' lw kw ow cw:V)(ol oc ok oo:O)(pc z c75:List V):Prop where
 blocks:Z2 bv' x.blocks
 waits:Jh wv' x.waits
 space:Qe sv' x.space
 own:Xg mv' x.p.own
 twin:Qh8 2 x lw kw ow cw ol oc ok oo
 fr:FrC pc z c75
 mn:many=(((Qbm x.p.changes id+11)/12:Nat):Int)
 ok:e=0->(∃i,∃h:i<x.p.lines.length,x.p.lines[i].id=id)/\x.p.logged+many<=8/\(0<many->x.p.gen≠16777215)
def ROpen(C:AM.Frame)(bv wv sv mv lv kv ov cv:V)(x:Kc)(id:Int)(r:Rt)(H' :Heap):Prop:=r= .ret (.ptr 1 14 0)/\
 ((Qaz x=false/\H' =[C,[(2,.cells (Qf bv wv sv mv lv kv ov cv x.p)),(14,.cells (Qx (Qf bv wv sv mv lv kv ov cv x.p) id 0 8))]])\/
  (Qaz x=true/\∃many e bv' wv' sv' mv' lw kw ow cw ol oc ok oo pc z c75,Q3f x id many e bv' wv' sv' mv' lw kw ow cw ol oc ok oo pc z c75/\
    H' =[C,[(2,.cells (Qf bv wv sv mv lv kv ov cv x.p)),(14,.cells (Qx (Qf bv' wv' sv' mv' lw kw ow cw x.p) id many e))],[(1,.cells pc),(2,.cells z),(18,ol),(21,oc),(65,ok),(68,oo),(75,.cells c75)]]))
set_option maxHeartbeats 8000000 in
theorem Zdm(C:AM.Frame)(hC:Zg (fun f _=>Nat.ble 1 f) C=true)(h:K5 bv wv sv mv lv kv ov cv x)(f:x.Fits)(id:Int):
 CW Tp Qg 10 [.agg (Qf bv wv sv mv lv kv ov cv x.p),.int .i64 id] [C] (ROpen C bv wv sv mv lv kv ov cv x id):=by
 refine Zu Tryz.func10 rfl ?_;obtain⟨m,rfl,hm⟩:=(Q5q h f).op (by rfl) (Qa (Qye h _) rfl);have hm1:∀s H,_:=fun s H=>hm 10 1 s H rfl;obtain⟨lcs,hlc,hlv⟩:=(show _ from h.lines);obtain⟨lp,hlp,hm⟩:=(Q01 h f lcs hlc hlv id).op (by rfl) (Qa (Qye h _) (Qa rfl rfl));have hm2:∀s H,_:=fun s H=>hm 10 1 s H rfl;obtain⟨s1,s2,s3,s4,s5,s6,s7,s8⟩:=Qia h;obtain⟨ccs,hcc,hcv⟩:=(show _ from h.changes);have lc:=hcv.len Zu2;cases hok:Qaz x
 case false=>simp only[hok,okE,Qf] at hm1⊢;simp only[wX,↓Qc,simprocAttr,Tryz.ntmps10,hm1,s1,s2,s3,s4,s5,s6,s7,s8,lc];refine W.opsT (by kernel_rfl) ?_;simp only[wX,↓Qc,simprocAttr,hm1,s1,s2,s3,s4,s5,s6,s7,s8,lc];refine W.done (End.ret (v:= .ptr 1 14 0) rfl ⟨rfl,.inl ⟨hok,?_⟩⟩);rw[Zj (by simp[V.refs])];rfl
 have good:=Qh3 hok;have pch:=Bv hok;have lsc:lp.scalar=true:=by rcases hlp with⟨rfl,_⟩|⟨_,_,_,rfl⟩<;>rfl
 simp only[hok,okE,Qf] at hm1 hm2⊢;simp only[wX,↓Qc,simprocAttr,Tryz.ntmps10,hm1,hm2,s1,s2,s3,s4,s5,s6,s7,s8,lc,lsc];refine W.opsT (by kernel_rfl) ?_;simp only[wX,↓Qc,simprocAttr,hm1,hm2,s1,s2,s3,s4,s5,s6,s7,s8,lc,lsc];refine W.ul ?_;refine W.loop (fun(i:Nat) t H=>Jg [1,2,5,6,25,26,27] t 0=Q1u (.int .i64 id) (.ptr 1 2 0) (.ptr 1 14 0) lp cv (.int .i64 x.p.changes.length) (.int .i64 i)/\i<=x.p.changes.length/\
  ∃F8:AM.Frame,(F8=[]\/∃c,F8=[(8,.cells c)]/\Qi (fun _ _=>true) c=false)/\
  H=[C,(2,.cells (Qf bv wv sv mv lv kv ov cv x.p))::(F8++[(14,.cells (Qx (Qf bv wv sv mv lv kv ov cv x.p) id (Qbm (x.p.changes.take i) id) 0))])]) (fun i=>x.p.changes.length-i) ?_ 0 ⟨rfl,Zq1 _,[],.inl rfl,rfl⟩
 rintro i t H ⟨ht,hi,F8,hF,rfl⟩;have nr:∀q,lp.refs q=false:=by intro q;rcases hlp with⟨rfl,_⟩|⟨_,_,_,rfl⟩<;>rfl
 have nc:∀q,cv.refs q=false:=fun q=>hcv.noRefs q;have pr:=fun q=>Qe7 h q;have hC8:Zg (fun f s=>f==1&&[8].contains s) C=true:=Qb7 (fun a b hab=>by
  simp only[Zok,beq_iff_eq] at hab
  simp[hab.1]) C hC
 have hfor:forget Qg 10 1 6 t [C,(2,.cells (Qf bv wv sv mv lv kv ov cv x.p))::(F8++[(14,.cells (Qx (Qf bv wv sv mv lv kv ov cv x.p) id (Qbm (x.p.changes.take i) id) 0))])]=
  some (Jg [1,2,5,6,25,26,27] t 0,[C,[(2,.cells (Qf bv wv sv mv lv kv ov cv x.p)),(14,.cells (Qx (Qf bv wv sv mv lv kv ov cv x.p) id (Qbm (x.p.changes.take i) id) 0))]]):=by
  rw[Z7 (kt:=[1,2,5,6,25,26,27]) (ds:=[8]) rfl _ _ rfl]
  . rcases hF with rfl|⟨c,rfl,_⟩<;>rfl
  . rw[ht];simp only[Q1u,Qi,V.refs,nr,nc,Zqs];rfl
  . have e:∀G:AM.Frame,G=(2,.cells (Qf bv wv sv mv lv kv ov cv x.p))::(F8++[(14,.cells (Qx (Qf bv wv sv mv lv kv ov cv x.p) id (Qbm (x.p.changes.take i) id) 0))])->List.modify [C,G] 1 (Ju fun s=>[8].contains s)=[C,[(2,.cells (Qf bv wv sv mv lv kv ov cv x.p)),(14,.cells (Qx (Qf bv wv sv mv lv kv ov cv x.p) id (Qbm (x.p.changes.take i) id) 0))]]:=by
     rintro G rfl;rcases hF with rfl|⟨c,rfl,_⟩<;>rfl
    rw[e _ rfl];simp only[Q2,hC8,Zg,O.refs,pr,Qw9 h,Zp7,Zqc]
 refine⟨_,_,hfor,?_⟩;rw[ht];have hml:=Qt6 (x.p.changes.take i) id;have htk:(x.p.changes.take i).length<=65536:=by rw[Zo1];omega
 simp only[Q1u,Qf,Qx,Zo8,Zpu];have key:i<x.p.changes.length\/¬i<x.p.changes.length:=Classical.em _;rcases key with h0|h0
 . have c1:decide ((i:Int)<x.p.changes.length)=true:=Zrh (by omega);have wi:(IntKind.i64).wrap ((i:Int)+1)=((i+1:Nat):Int):=by rw[wrap_i64]<;>omega
   have wm:(IntKind.i64).wrap ((Qbm (x.p.changes.take i) id:Int)+1)=((Qbm (x.p.changes.take i) id+1:Nat):Int):=by rw[wrap_i64]<;>omega
   have at1:=hcv.at (k:= .i64) Zu2 Qdq (by decide) (i:=(i:Int)) (by omega) (by omega);obtain⟨dv,hd1,hi2,hd2,hd3⟩:=hcc.at2 h0;obtain⟨dw,hdw,ld⟩:=hcc.toC.ld h0;have ld1:∀g,ldV Tp 43 g (.iptr ccs ((i:Int).toNat*12))=_:=ld;have ms:=Qy0 h0 id;have sdw:dw.scalar=true:=by obtain⟨_,h9⟩:=hdw;exact Q4 h9
   have cdw:dw.cells=some [dw]:=by obtain⟨_,h9⟩:=hdw;exact Q7 h9
   have rdw:∀q,dw.refs q=false:=by obtain⟨_,h9⟩:=hdw;exact fun q=>h9.noRefs q
   generalize x.p.changes[i]=c at*;obtain⟨cs,co,ci,ck,cl,cz,cn,⟨ra,rb,rc,rd,re⟩⟩:=c;simp only[Ql] at ld1;simp only[wX,↓Qc,simprocAttr,c1,wi,at1,ld1,sdw,cdw,s1,s2,s3,s4,s5,s6,s7,s8,lc,lsc];refine W.ite ?_ ?_<;>intro h2<;>simp only[wX,↓Qc,simprocAttr,wi,wm,s1,s2,s3,s4,s5,s6,s7,s8,lc,lsc,sdw,cdw]
   . refine W.done ⟨i+1,⟨rfl,by omega,[(8,.cells (Ql ⟨cs,co,ci,ck,cl,cz,cn,⟨ra,rb,rc,rd,re⟩⟩ dw))],.inr ⟨_,rfl,?_⟩,?_⟩,by omega⟩
     . simp only[Ql,Qi,V.refs,rdw,Zqs]
     . rw[ms,if_pos h2];rfl
   . have h2:¬(cs==id)=true:=by rw[h2];decide
     refine W.done ⟨i+1,⟨rfl,by omega,[(8,.cells (Ql ⟨cs,co,ci,ck,cl,cz,cn,⟨ra,rb,rc,rd,re⟩⟩ dw))],.inr ⟨_,rfl,?_⟩,?_⟩,by omega⟩
     . simp only[Ql,Qi,V.refs,rdw,Zqs]
     . rw[ms,if_neg h2];rfl
 . have c1:decide ((i:Int)<x.p.changes.length)=false:=Zri (by omega);have ei:x.p.changes.take i=x.p.changes:=Zpf (by omega);rw[ei] at hml⊢;clear hfor;generalize hmn:Qbm x.p.changes id=n at*;have w11:(IntKind.i64).wrap ((n:Int)+12)=((n+12:Nat):Int):=by rw[wrap_i64]<;>omega
   have w12:(IntKind.i64).wrap (((n+12:Nat):Int)-1)=((n+11:Nat):Int):=by rw[wrap_i64]<;>omega
   have eq:∀a b,Zq Tp .quo 3 a b (.int .i64 ((n+11:Nat):Int)) (.int .i64 12)=some (.int .i64 (((n+11)/12:Nat):Int)):=by
    intro a b;have:(IntKind.i64).wrap ((((n+11:Nat):Int)).tdiv 12)=(((n+11)/12:Nat):Int):=by rw[Int.tdiv_eq_ediv_of_nonneg (by omega),wrap_i64]<;>omega
    show some (V.int .i64 ((IntKind.i64).wrap ((((n+11:Nat):Int)).tdiv 12)))=_;rw[this]
   simp only[wX,↓Qc,simprocAttr,c1,w11,w12,eq,s1,s2,s3,s4,s5,s6,s7,s8,lc,lsc];refine W.done ?_;simp only[wX,↓Qc,simprocAttr,w11,w12,eq,s1,s2,s3,s4,s5,s6,s7,s8,lc,lsc];obtain⟨lg0,lg8⟩:=Qwt hok;have hn:(n+11)/12<=5462:=by omega
   have tw:∀e:Int,∃bv' wv' sv' mv' lw kw ow cw ol oc ok oo pc z c75,Z2 bv' x.blocks/\Jh wv' x.waits/\Qe sv' x.space/\Xg mv' x.p.own/\Qh8 2 x lw kw ow cw ol oc ok oo/\FrC pc z c75/\
    callOp Qg (Qn Tp Qg) 10 1 (some 99) 21 [.agg (Qf bv wv sv mv lv kv ov cv x.p)] [C,[(2,.cells (Qf bv wv sv mv lv kv ov cv x.p)),(14,.cells (Qx (Qf bv wv sv mv lv kv ov cv x.p) id (((n+11)/12:Nat):Int) e))]]=
    some (.ret (.agg (Qf bv' wv' sv' mv' lw kw ow cw x.p)),[C,[(2,.cells (Qf bv wv sv mv lv kv ov cv x.p)),(14,.cells (Qx (Qf bv wv sv mv lv kv ov cv x.p) id (((n+11)/12:Nat):Int) e))],[(1,.cells pc),(2,.cells z),(18,ol),(21,oc),(65,ok),(68,oo),(75,.cells c75)]]):=by
    intro e;obtain⟨r,H',e1,bv',wv',sv',mv',lw,kw,ow,cw,ol,oc,ok,oo,pc,z,c75,rfl,rfl,q1,q2,q3,q4,q5,q6⟩:=Qxi C [(2,.cells (Qf bv wv sv mv lv kv ov cv x.p)),(14,.cells (Qx (Qf bv wv sv mv lv kv ov cv x.p) id (((n+11)/12:Nat):Int) e))] h f hok;exact⟨bv',wv',sv',mv',lw,kw,ow,cw,ol,oc,ok,oo,pc,z,c75,q1,q2,q3,q4,q5,q6,Za rfl rfl rfl e1⟩
   rcases hlp with⟨rfl,hno⟩|⟨k,hk,hid,rfl⟩
   . simp only[wX,↓Qc,simprocAttr,Qbr,s1,s2,s3,s4,s5,s6,s7,s8,lc,lsc];obtain⟨bv',wv',sv',mv',lw,kw,ow,cw,ol,oc,ok,oo,pc,z,c75,q1,q2,q3,q4,q5,q6,ht⟩:=tw 6;simp only[Qf,Qx,Zo8,Zpu] at ht;have y1:=Qeo q1 q2 q3 q4 q5;obtain⟨y1,y2,y3,y4,y5,y6,y7,y8,z1,z2,z3,z4,z5,z6,z7,z8⟩:=y1;simp only[wX,↓Qc,simprocAttr,ht,y1,y2,y3,y4,y5,y6,y7,y8,z1,z2,z3,z4,z5,z6,z7,z8,s1,s2,s3,s4,s5,s6,s7,s8,lc,lsc];refine W.done (End.ret (v:= .ptr 1 14 0) rfl ⟨rfl,.inr ⟨hok,_,6,bv',wv',sv',mv',lw,kw,ow,cw,ol,oc,ok,oo,pc,z,c75,⟨q1,q2,q3,q4,q5,q6,by rw[hmn],fun h=>absurd h (by decide)⟩,?_⟩⟩);rw[Zj (by simp[V.refs])];rfl
   . obtain⟨_,g1,_,_⟩:=hlc.cells hk;cases ck:(x.p.lines[k].kind==2)
     case true=>simp only[wX,↓Qc,simprocAttr,Bp,g1,ck,s1,s2,s3,s4,s5,s6,s7,s8,lc,lsc];obtain⟨bv',wv',sv',mv',lw,kw,ow,cw,ol,oc,ok,oo,pc,z,c75,q1,q2,q3,q4,q5,q6,ht⟩:=tw 202;simp only[Qf,Qx,Zo8,Zpu] at ht;have y1:=Qeo q1 q2 q3 q4 q5;obtain⟨y1,y2,y3,y4,y5,y6,y7,y8,z1,z2,z3,z4,z5,z6,z7,z8⟩:=y1;simp only[wX,↓Qc,simprocAttr,ht,y1,y2,y3,y4,y5,y6,y7,y8,z1,z2,z3,z4,z5,z6,z7,z8,s1,s2,s3,s4,s5,s6,s7,s8,lc,lsc];refine W.done (End.ret (v:= .ptr 1 14 0) rfl ⟨rfl,.inr ⟨hok,_,202,bv',wv',sv',mv',lw,kw,ow,cw,ol,oc,ok,oo,pc,z,c75,⟨q1,q2,q3,q4,q5,q6,by rw[hmn],fun h=>absurd h (by decide)⟩,?_⟩⟩);rw[Zj (by simp[V.refs])];rfl
     have wl:(IntKind.i64).wrap (x.p.logged+(((n+11)/12:Nat):Int))=x.p.logged+(((n+11)/12:Nat):Int):=by rw[wrap_i64]<;>omega
     cases cl:decide (x.p.logged+(((n+11)/12:Nat):Int)>8)
     case true=>simp only[wX,↓Qc,simprocAttr,Bp,g1,ck,wl,cl,s1,s2,s3,s4,s5,s6,s7,s8,lc,lsc];refine W.opsT (by kernel_rfl) ?_;simp only[wX,↓Qc,simprocAttr,wl,cl,s1,s2,s3,s4,s5,s6,s7,s8,lc,lsc];obtain⟨bv',wv',sv',mv',lw,kw,ow,cw,ol,oc,ok,oo,pc,z,c75,q1,q2,q3,q4,q5,q6,ht⟩:=tw 180;simp only[Qf,Qx,Zo8,Zpu] at ht;have y1:=Qeo q1 q2 q3 q4 q5;obtain⟨y1,y2,y3,y4,y5,y6,y7,y8,z1,z2,z3,z4,z5,z6,z7,z8⟩:=y1;simp only[wX,↓Qc,simprocAttr,ht,y1,y2,y3,y4,y5,y6,y7,y8,z1,z2,z3,z4,z5,z6,z7,z8,s1,s2,s3,s4,s5,s6,s7,s8,lc,lsc];refine W.done (End.ret (v:= .ptr 1 14 0) rfl ⟨rfl,.inr ⟨hok,_,180,bv',wv',sv',mv',lw,kw,ow,cw,ol,oc,ok,oo,pc,z,c75,⟨q1,q2,q3,q4,q5,q6,by rw[hmn],fun h=>absurd h (by decide)⟩,?_⟩⟩);rw[Zj (by simp[V.refs])];rfl
     have hl8:=of_decide_eq_false cl;cases cm:decide ((((n+11)/12:Nat):Int)>0)
     case false=>simp only[wX,↓Qc,simprocAttr,Bp,g1,ck,wl,cl,cm,s1,s2,s3,s4,s5,s6,s7,s8,lc,lsc];refine W.opsT (by kernel_rfl) ?_;simp only[wX,↓Qc,simprocAttr,wl,cl,cm,s1,s2,s3,s4,s5,s6,s7,s8,lc,lsc];obtain⟨bv',wv',sv',mv',lw,kw,ow,cw,ol,oc,ok,oo,pc,z,c75,q1,q2,q3,q4,q5,q6,ht⟩:=tw 0;simp only[Qf,Qx,Zo8,Zpu] at ht;have y1:=Qeo q1 q2 q3 q4 q5;obtain⟨y1,y2,y3,y4,y5,y6,y7,y8,z1,z2,z3,z4,z5,z6,z7,z8⟩:=y1;simp only[wX,↓Qc,simprocAttr,ht,y1,y2,y3,y4,y5,y6,y7,y8,z1,z2,z3,z4,z5,z6,z7,z8,s1,s2,s3,s4,s5,s6,s7,s8,lc,lsc];refine W.done (End.ret (v:= .ptr 1 14 0) rfl ⟨rfl,.inr ⟨hok,_,0,bv',wv',sv',mv',lw,kw,ow,cw,ol,oc,ok,oo,pc,z,c75,⟨q1,q2,q3,q4,q5,q6,by rw[hmn],fun _=>⟨⟨k,hk,hid⟩,by omega,fun hp=>absurd hp (of_decide_eq_false cm)⟩⟩,?_⟩⟩);rw[Zj (by simp[V.refs])];rfl
     cases cg:(x.p.gen==16777215)
     case true=>simp only[wX,↓Qc,simprocAttr,Bp,g1,ck,wl,cl,cm,cg,s1,s2,s3,s4,s5,s6,s7,s8,lc,lsc];refine W.opsT (by kernel_rfl) ?_;simp only[wX,↓Qc,simprocAttr,wl,cl,cm,cg,s1,s2,s3,s4,s5,s6,s7,s8,lc,lsc];obtain⟨bv',wv',sv',mv',lw,kw,ow,cw,ol,oc,ok,oo,pc,z,c75,q1,q2,q3,q4,q5,q6,ht⟩:=tw 2;simp only[Qf,Qx,Zo8,Zpu] at ht;have y1:=Qeo q1 q2 q3 q4 q5;obtain⟨y1,y2,y3,y4,y5,y6,y7,y8,z1,z2,z3,z4,z5,z6,z7,z8⟩:=y1;simp only[wX,↓Qc,simprocAttr,ht,y1,y2,y3,y4,y5,y6,y7,y8,z1,z2,z3,z4,z5,z6,z7,z8,s1,s2,s3,s4,s5,s6,s7,s8,lc,lsc];refine W.done (End.ret (v:= .ptr 1 14 0) rfl ⟨rfl,.inr ⟨hok,_,2,bv',wv',sv',mv',lw,kw,ow,cw,ol,oc,ok,oo,pc,z,c75,⟨q1,q2,q3,q4,q5,q6,by rw[hmn],fun h=>absurd h (by decide)⟩,?_⟩⟩);rw[Zj (by simp[V.refs])];rfl
     simp only[wX,↓Qc,simprocAttr,Bp,g1,ck,wl,cl,cm,cg,s1,s2,s3,s4,s5,s6,s7,s8,lc,lsc];refine W.opsT (by kernel_rfl) ?_;simp only[wX,↓Qc,simprocAttr,wl,cl,cm,cg,s1,s2,s3,s4,s5,s6,s7,s8,lc,lsc];obtain⟨bv',wv',sv',mv',lw,kw,ow,cw,ol,oc,ok,oo,pc,z,c75,q1,q2,q3,q4,q5,q6,ht⟩:=tw 0;simp only[Qf,Qx,Zo8,Zpu] at ht;have y1:=Qeo q1 q2 q3 q4 q5;obtain⟨y1,y2,y3,y4,y5,y6,y7,y8,z1,z2,z3,z4,z5,z6,z7,z8⟩:=y1;simp only[wX,↓Qc,simprocAttr,ht,y1,y2,y3,y4,y5,y6,y7,y8,z1,z2,z3,z4,z5,z6,z7,z8,s1,s2,s3,s4,s5,s6,s7,s8,lc,lsc];refine W.done (End.ret (v:= .ptr 1 14 0) rfl ⟨rfl,.inr ⟨hok,_,0,bv',wv',sv',mv',lw,kw,ow,cw,ol,oc,ok,oo,pc,z,c75,⟨q1,q2,q3,q4,q5,q6,by rw[hmn],fun _=>⟨⟨k,hk,hid⟩,by omega,fun _=>by simpa using cg⟩⟩,?_⟩⟩);rw[Zj (by simp[V.refs])];rfl
end
end Go.Proofs.YtjllfbejpjonnaaGreatDoor
namespace Go.Proofs.YtjllfbejpjonnaaGreatDoor
open Go.AM Go.AM.BM
attribute [local irreducible] U W
def leB(n:Nat):Nat->List UInt8
 |0=>[]
 |i+1=>leB n i++[UInt8.ofNat (n/256^i)]
theorem Qaf(n:Nat):∀i,(leB n i).length=i
 |0=>rfl
 |i+1=>by simp[leB,Qaf n i]
def Quj(n:Nat):Nat->V
 |0=> .nS
 |i+1=> .gS 0 31 (Qb (leB n (i+1))) (i+1) 1
def Qv7:Nat->AM.Heap
 |0=>[[]]
 |i+1=>[[(31,.grow (i+1))]]
def Qn5(n k:Nat):V:=if !(decide (0<k)&&decide (k<=4))||decide (256^k<=n) then .tuple [.nS,.int .i64 2] else .tuple [.iS (Qb (leB n k)) k false,.int .i64 0]
theorem Qge(g:Get)(m:Nat):∀l:List UInt8,Q5 (frzN g (m+1)) (Qb l)=some (Qb l)
 |[]=>rfl
 |b::l=>by
  have:=Qge g m l;simp only[Qb,Zo4] at this⊢;exact Qa rfl this
theorem Q7x(n k:Nat)(hn:n<=281474976710656)(hk:k<=4294967296):CW Tp Qg 67 [.int .i64 n,.int .i64 k] [] fun r H=>∃v0,r= .ret v0/\frzN (Qd H) depth v0=some (Qn5 n k)/\frz (Qd H) depth v0=some (Qn5 n k):=by
 refine Zu Tryz.func67 rfl ?_;obtain⟨m,rfl,hm⟩:=(Qom k).op (by rfl) rfl;have hm' :∀s H,_:=fun s H=>hm 67 0 s H rfl;have c0:decide ((n:Int)<0)=false:=by simp
 have err:∀(T:List V),T.getD 4 .bad= .nS->T.getD 5 .bad= .int .i64 2->Qn5 n k= .tuple [.nS,.int .i64 2]->AM.End Tp Tryz.f67 0 (fun r H=>∃v0,r= .ret v0/\frzN (Qd H) depth v0=some (Qn5 n k)/\frz (Qd H) depth v0=some (Qn5 n k)) .ret T [[]]:=by intro T h1 h2 h3;refine End.ret (v:= .tuple [.nS,.int .i64 2]) ?_ ⟨_,rfl,by rw[h3];rfl,by rw[h3];rfl⟩;show(match Qha Tp T [[]] [.tmp 4,.tmp 5] with|some [v]=>some v|some vs=>some (V.tuple vs)|none=>none)=_;simp only[Qha,Qak,h1,h2]
 cases hs:(decide (0<k)&&decide (k<=4)) with
 |false=>
  rw[hs] at hm';simp only[wX,↓Qc,simprocAttr,Tryz.ntmps67,hm'];refine W.done (err _ rfl rfl ?_);simp[Qn5,hs]
 |true=>
  rw[hs] at hm';have hk4:0<k/\k<=4:=by simpa using hs
  have m8:(IntKind.i64).wrap (8*(k:Int))=((8*k:Nat):Int):=by rw[wrap_i64]<;>omega
  have sh:∀p q,Zq Tp .shl 3 p q (.int .i64 1) (.int .i64 ((8*k:Nat):Int))=some (.int .i64 ((256^k:Nat):Int)):=fun p q=>by
   obtain⟨h1,h2⟩:=hk4;have:k=1\/k=2\/k=3\/k=4:=by omega
   rcases this with rfl|rfl|rfl|rfl<;>rfl
  have cg:decide ((n:Int)>=((256^k:Nat):Int))=decide (256^k<=n):=by simp only[ge_iff_le,Int.ofNat_le]
  simp only[wX,↓Qc,simprocAttr,Tryz.ntmps67,hm',c0,m8,sh,cg];refine W.ite (fun h=>?_) (fun h=>?_)
  . simp only[wA,↓Qc,simprocAttr];refine W.done (err _ rfl rfl ?_);simp only[decide_eq_true_eq] at h;simp[Qn5,hs,h]
  . have hv:Qn5 n k= .tuple [.iS (Qb (leB n k)) k false,.int .i64 0]:=by
     simp only[Qn5,hs,h];rfl
    rw[hv];simp only[wX,↓Qc,simprocAttr];refine W.ul ?_;refine W.loopS (kt:=[0,1,6]) rfl (fun i:Nat=>Q74 (.int .i64 ((n/256^i:Nat):Int)) (.int .i64 k) (Quj n i)) Qv7 (fun i=>i<=k) (fun i=>k-i) ?_ 0 (Zq1 _) (by simp only[Nat.pow_zero,Nat.div_one];rfl) rfl;intro i hi;simp only[Q74];have len:∀g,Ku Tp g 26 (Quj n i)=some (.int .i64 (i:Nat)):=fun g=>by
     cases i with
     |zero=>exact Ql9 Zu0
     |succ i=>exact Q9c Zu0 g
    by_cases h2:i<k
    . have c1:decide ((i:Int)<k)=true:=by simp only[decide_eq_true_eq];omega
      generalize hN:n/256^i=N;have hNn:N<=n:=by rw[<-hN];exact Nat.div_le_self _ _
      have cv:∀g,convertV Tp g 3 5 (.int .i64 N)=some (.val (.int .u8 ((UInt8.ofNat N).toNat:Nat)) none):=fun g=>by
       simp only[convertV,Zu3,Zu11];have:(IntKind.u8).wrap (N:Int)=((UInt8.ofNat N).toNat:Int):=by rw[IntKind.wrap_u8,UInt8.toNat_ofNat'];omega
       simp only[this]
      have q:∀x y,Zq Tp .quo 3 x y (.int .i64 N) (.int .i64 256)=some (.int .i64 ((N/256:Nat):Int)):=fun x y=>by
       have e:(N:Int).tdiv 256=((N/256:Nat):Int):=by rw[Int.tdiv_eq_ediv_of_nonneg (by omega)];omega
       have w:(IntKind.i64).wrap ((N/256:Nat):Int)=((N/256:Nat):Int):=by rw[wrap_i64]<;>omega
       show some (V.int .i64 ((IntKind.i64).wrap ((N:Int).tdiv 256)))=_;rw[e,w]
      have ap:Qr Tp (Qg.mt 67) 0 (Qd (Qv7 i)) (some 31) 26 26 (Quj n i) (.iS [.int .u8 ((UInt8.ofNat N).toNat:Nat)] 1 true)=some (.val (Quj n (i+1)) (some (0,31,.grow (i+1)))):=by
       have mt:Qg.mt 67 31=false:=rfl;have e2:Qb (leB n (i+1))=Qb (leB n i)++[.int .u8 ((UInt8.ofNat N).toNat:Nat)]:=by rw[leB,K9,hN];rfl
       cases i with
       |zero=>
        rw[Quj,Quj,Qcp Zu0 sz5 Qj0 zc5 rfl Zu0 (m:=1) (cs:=[.int .u8 ((UInt8.ofNat N).toNat:Nat)]) rfl (by omega) (by decide),Kr mt rfl rfl,e2];rfl
       |succ i=>
        rw[Quj,Quj,Qc8 Zu0 sz5 Qj0 zc5 rfl Zu0 (cs:=[.int .u8 ((UInt8.ofNat N).toNat:Nat)]) (m:=1) rfl (by omega) (Zw (by omega) (by omega)) rfl rfl rfl,e2]
      have hs2:List.modify (Qv7 i) 0 (fun fr=>Kq fr 31 (.grow (i+1)))=Qv7 (i+1):=by cases i<;>rfl
      have mt:∀s,s<2000000->Qg.mt 67 s=false:=fun s h=>B2 h rfl;generalize Quj n i=S at*;generalize Qv7 i=K at*;simp only[wX,↓Qc,simprocAttr,len,c1,cv,q,mt,Qv,ap,hs2,Zu0];refine W.done ⟨i+1,?_,rfl,h2,by omega⟩;have:n/256^(i+1)=N/256:=by rw[Nat.pow_succ,<-Nat.div_div_eq_div_mul,hN]
      rw[this];rfl
    . have hik:i=k:=by omega
      subst hik;have c1:decide ((i:Int)<i)=false:=by simp
      simp only[wX,↓Qc,simprocAttr,len,c1];refine W.done ?_;simp only[wX,↓Qc,simprocAttr];obtain⟨j,rfl⟩:∃j,i=j+1:=⟨i-1,by omega⟩;refine W.done (End.ret (v:= .tuple [.gS 0 31 (Qb (leB n (j+1))) (j+1) 1,.int .i64 0]) rfl ⟨_,rfl,?_,?_⟩)<;>rw[Zj rfl]
      . have fl:Q5 (frzN (Qd (Qv7 (j+1))) 10) (Qb (leB n (j+1)))=some (Qb (leB n (j+1))):=Qge _ _ _;have f1:frzN (Qd (Qv7 (j+1))) 11 (.gS 0 31 (Qb (leB n (j+1))) (j+1) 1)=some (.iS (Qb (leB n (j+1))) (j+1) false):=by
         show(if j+1=j+1 then(Q5 (frzN (Qd (Qv7 (j+1))) 10) (Qb (leB n (j+1)))).map _ else none)=_;rw[fl,if_pos rfl];rfl
        show(Q5 (frzN _ 11) [V.gS 0 31 (Qb (leB n (j+1))) (j+1) 1,.int .i64 0]).map _=_;rw[Qa f1 (Qa (y:= .int .i64 0) rfl rfl)];rfl
      . have f1:=Q1t (l:=leB n (j+1)) (f:=0) (s:=31) (n:=j+1) (e:=1) (Qd (Qv7 (j+1))) 9;show(Q5 (frz _ 11) [V.gS 0 31 (Qb (leB n (j+1))) (j+1) 1,.int .i64 0]).map _=_;rw[Qa f1 (Qa (y:= .int .i64 0) rfl rfl)];rfl
end Go.Proofs.YtjllfbejpjonnaaGreatDoor
namespace Go.Proofs.YtjllfbejpjonnaaGreatDoor
open Go.AM Go.AM.BM
attribute [local irreducible] U W
theorem Qyd(n:Nat):∀i,leB n (i+1)=UInt8.ofNat n::leB (n/256) i
 |0=>by simp[leB]
 |i+1=>by
  rw[leB,Qyd n i,leB];have:n/256^(i+1)=n/256/256^i:=by rw[Nat.pow_succ',Nat.div_div_eq_div_mul]
  rw[this];rfl
theorem Qpd:∀(k n:Nat),Qj5 n k=Qb (leB n k)
 |0,n=>rfl
 |k+1,n=>by
  rw[Qyd,Qj5,Qpd k (Nat.div n 256)];have e:(UInt8.ofNat n).toNat=n%256:=by rw[UInt8.toNat_ofNat']
  show V.int .u8 (Int.ofNat (n%256))::Qb (leB (n/256) k)=V.int .u8 ((UInt8.ofNat n).toNat:Int)::Qb (leB (n/256) k);rw[e];rfl
end Go.Proofs.YtjllfbejpjonnaaGreatDoor
namespace Go.Proofs.YtjllfbejpjonnaaGreatDoor
open Go.AM Go.AM.BM
attribute [local irreducible] U W
theorem Zbi(n:Nat)(hn:n<4294967296):Fz Tp Qg 67 [.int .i64 n,.int .i64 4] fun r=>r= .tuple [.iS (Qb (leB n 4)) 4 false,.int .i64 0]:=by
 obtain⟨r,H,h1,v0,rfl,_,h2⟩:=Q7x n 4 (by omega) (by decide);have e:Qn5 n 4= .tuple [.iS (Qb (leB n 4)) 4 false,.int .i64 0]:=by
  have:¬256^4<=n:=by omega
  simp[Qn5,this]
 exact⟨v0,H,_,h1,h2,e⟩
theorem Q7p{l:List UInt8}(hl:l.length<=1048576):wok (Kk l):=by have ok:=Qku (l:=Qbj l (Xf l.length)) (j:=(l.length+1+Xf l.length)/8) (by rw[Qeb];omega);exact Qlw 8 ⟨ok.1,Qeu ok.2.1 (by omega),ok.2.2.1,ok.2.2.2⟩
def wi(x:W4):Nat->Nat
 |0=>x.a
 |1=>x.b
 |2=>x.c
 |_=>x.d
theorem wi_lt{x:W4}(h:wok x):∀i,wi x i<4294967296
 |0=>h.1
 |1=>h.2.1
 |2=>h.2.2.1
 |_+3=>h.2.2.2
def Qds(x:W4):Nat->List UInt8
 |0=>[]
 |i+1=>Qds x i++leB (wi x i) 4
theorem Qd3(x:W4):∀i,(Qds x i).length=4*i
 |0=>rfl
 |i+1=>by simp[Qds,Qd3 x i,Qaf];omega
def Qwi(x:W4):Nat->V
 |0=> .nS
 |i+1=> .gS 0 21 (Qb (Qds x (i+1))) (4*(i+1)) 1
def keyH:Nat->AM.Heap
 |0=>[[]]
 |i+1=>[[(21,.grow (4*(i+1)))]]
theorem Zcn{l:List UInt8}{f s n e:Nat}{g:Get}(h:g f s=some (.grow n))(m:Nat):frzN g (m+2) (.gS f s (Qb l) n e)=some (.iS (Qb l) n false):=by
 have fl:Q5 (frzN g (m+1)) (Qb l)=some (Qb l):=Qge _ _ _;have e1:frzN g (m+2) (.gS f s (Qb l) n e)=(match g f s with
  |some (.grow k)=>if k=n then(Q5 (frzN g (m+1)) (Qb l)).map fun cs=> .iS cs n false else none
  |_=>none):=rfl
 rw[e1,h];simp only[if_true,fl,Zn2]
theorem Q94(v:V)(l:List UInt8)(hv:Qe v l)(hl:l.length<=1048576):CW Tp Qg 246 [v] [] fun r H=>∃v0,r= .ret v0/\frzN (Qd H) depth v0=some (.iS (Qb (Qds (Kk l) 4)) 16 false)/\frz (Qd H) depth v0=some (.iS (Qb (Qds (Kk l) 4)) 16 false):=by
 refine Zu Tryz.func246 rfl ?_;obtain⟨m,rfl,hm⟩:=(Q28 v l hv hl).op (by rfl) (Qa (hv.frz _) rfl);have hm' :∀s H,_:=fun s H=>hm 246 0 s H rfl;have ok:=Q7p hl;generalize Kk l=z at*;simp only[wX,↓Qc,simprocAttr,Tryz.ntmps246,hm'];refine W.ul ?_;refine W.loopS (kt:=[3,9,10]) rfl (fun i:Nat=>Q3g (Qwi z i) (.agg (wc z)) (.int .i64 i)) keyH (fun i=>i<=4) (fun i=>4-i) ?_ 0 (Zq1 _) rfl rfl;intro i hi;simp only[Q3g];by_cases h:i<4
 . have c1:decide ((i:Int)<4)=true:=by simp;omega
   have ix:Xs Tp 176 (.agg (wc z)) (.int .i64 i)=some (.int .u32 (wi z i)):=by
    have:i=0\/i=1\/i=2\/i=3:=by omega
    rcases this with rfl|rfl|rfl|rfl<;>(simp only[Xs,Zu14,Quu];rfl)
   have cv:∀g,convertV Tp g 27 3 (.int .u32 (wi z i))=some (.val (.int .i64 (wi z i)) none):=fun g=>by
    simp only[convertV,Zu3,Zu7];have:=wi_lt ok i;have:(IntKind.i64).wrap (wi z i:Int)=(wi z i:Int):=by rw[wrap_i64]<;>omega
    simp only[this]
   obtain⟨m2,rfl,hm2⟩:=(Zbi (wi z i) (wi_lt ok i)).op (by rfl) rfl;have hm2' :∀s H,_:=fun s H=>hm2 246 0 s H rfl;have w1:(IntKind.i64).wrap ((i:Int)+1)=((i+1:Nat):Int):=by rw[wrap_i64]<;>omega
   have mt:∀s,s<2000000->Qg.mt 246 s=false:=fun s h=>B2 h rfl;have ap:Qr Tp (Qg.mt 246) 0 (Qd (keyH i)) (some 21) 26 26 (Qwi z i) (.iS (Qb (leB (wi z i) 4)) 4 false)=some (.val (Qwi z (i+1)) (some (0,21,.grow (4*(i+1))))):=by
    have e2:Qb (Qds z (i+1))=Qb (Qds z i)++Qb (leB (wi z i) 4):=by rw[Qds,K9]
    have sc:∀g,Qk g 1 (.iS (Qb (leB (wi z i) 4)) 4 false)=some (Qb (leB (wi z i) 4),4):=fun g=>by simp[Qk,Qy,Qaf]
    cases i with
    |zero=>
     rw[Qwi,Qwi,Qcp Zu0 sz5 Qj0 zc5 rfl Zu0 (sc _) (by omega) (by decide),Kr (mt _ (by decide)) (Ja _) rfl,e2];rfl
    |succ i=>
     rw[Qwi,Qwi,Qc8 Zu0 sz5 Qj0 zc5 rfl Zu0 (sc _) (by omega) (Zw (by omega) (by omega)) (Ja _) (Z8 _) rfl,e2,show 4*(i+1)+4=4*(i+1+1) by omega]
   have hs2:List.modify (keyH i) 0 (fun fr=>Kq fr 21 (.grow (4*(i+1))))=keyH (i+1):=by cases i<;>rfl
   generalize Qwi z i=S at*;generalize keyH i=K at*;simp only[wX,↓Qc,simprocAttr,c1,ix,cv,hm2',mt,Qv,ap,hs2,w1,Zu0];exact W.done ⟨i+1,rfl,rfl,h,by omega⟩
 . have hi4:i=4:=by omega
   subst hi4;have c1:decide (((4:Nat):Int)<4)=false:=rfl;simp only[wX,↓Qc,simprocAttr,c1];refine W.done ?_;simp only[wX,↓Qc,simprocAttr];refine W.done (End.ret (v:=Qwi z 4) rfl ⟨_,rfl,?_,?_⟩)
   . rw[Zj rfl];exact Zcn rfl 10
   . exact Q1t _ 10
theorem Zcu(ys:List V)(v:V)(h:kKey ys=some v):FzN Tp Qg 246 ys v:=by
 unfold kKey at h;split at h
 case h_2=>cases h
 rename_i x;split at h
 case h_2=>cases h
 rename_i c hc;cases h;obtain⟨l,rfl,hb,hl⟩:=Ql6 hc;obtain⟨r,H,e1,v0,rfl,e2,_⟩:=Q94 x l hb hl;have e:keyC (Qx4 (Qb l))=Qb (Qds (Kk l) 4):=by rw[Q2y];simp only[keyC,Qds,Qpd,K9,Zo6,wi];rfl
 rw[e];exact⟨_,_,e1,e2⟩
end Go.Proofs.YtjllfbejpjonnaaGreatDoor
namespace Go.Proofs.YtjllfbejpjonnaaGreatDoor
open Go.AM
attribute [local irreducible] U W
theorem Q3v(v:V)(l:List UInt8)(hv:Qe v l)(hl:l.length<=1048576):Fz Tp Qg 246 [v] fun x=>x= .iS (Qb (Qds (Kk l) 4)) 16 false:=by refine Fz.of_cw ((Q94 v l hv hl).mono ?_);rintro r H ⟨v0,rfl,_,h⟩;exact⟨v0,rfl,_,h,rfl⟩
theorem Q8w(l:List UInt8):Qe (.iS (Qb (Qds (Kk l) 4)) 16 false) (Qds (Kk l) 4):=by have h:(Qds (Kk l) 4).length=16:=Qd3 _ 4;have:=Qe.mk (Qds (Kk l) 4) false;rwa[h] at this
theorem rows2{a b:V}{k l:List UInt8}(ha:Qe a k)(hb:Qe b l)(f:Bool):Z2 (.iS [a,b] 2 f) [k,l]:=⟨[a,b],⟨a,[b],rfl,ha,b,[],rfl,hb,rfl⟩,Qw.mk rfl⟩
theorem Qs1{a b c:V}{k l m:List UInt8}(ha:Qe a k)(hb:Qe b l)(hc:Qe c m)(f:Bool):Z2 (.iS [a,b,c] 3 f) [k,l,m]:=⟨[a,b,c],⟨a,[b,c],rfl,ha,b,[c],rfl,hb,c,[],rfl,hc,rfl⟩,Qw.mk rfl⟩
theorem Qhc{v:V}{rows:List (List UInt8)}(h:Z2 v rows)(g:Get)(n:Nat):frz g (n+1) v=some v:=by obtain⟨cs,hc,hv⟩:=h;exact hv.frz n
theorem Zbk(v:V)(rows:List (List UInt8))(hv:Z2 v rows)(hn:rows.length<=1048576)(hl:rows.flatten.length<=1048576)(hpos:0<rows.flatten.length):Fz Tp Qg 219 [v] fun x=>x= .iS (Qb (Qds (Kk rows.flatten) 4)) 16 false:=by refine Zm Tryz.func219 rfl ?_;obtain⟨m,rfl,hm⟩:=(Qii v rows hv hn hl hpos).op (by rfl) (Qa (Qhc hv _ _) rfl);have hm1:∀s H,_:=fun s H=>hm 219 0 s H rfl;obtain⟨m,rfl,hm⟩:=(Q3v _ _ (Qe.mk rows.flatten false) hl).op (by rfl) (Qa ((Qe.mk rows.flatten false).frz _) rfl);have hm2:∀s H,_:=fun s H=>hm 219 0 s H rfl;have hk:=Q8w rows.flatten;generalize Qds (Kk rows.flatten) 4=z at*;simp only[wX,↓Qc,simprocAttr,Tryz.ntmps219,hm1,hm2];exact W.done (Q0.ret (v:= .iS (Qb z) 16 false) rfl (hk.frz 11) rfl)
def RNum(x:V):Prop:=∃n e:Int,x= .tuple [.int .u32 n,.int .i64 e]
theorem tag_fz(kv bv:V)(k b:List UInt8)(hk:Qe kv k)(hb:Qe bv b)(hkl:k.length<=100000)(hbl:b.length<=100000):Fz Tp Qg 164 [kv,bv] RNum:=by
 refine Zm Tryz.func164 rfl ?_;have len:=hk.len Zu0;by_cases h16:k.length=16
 . rw[h16] at len;have h1:Qe (.iS [.int .u8 1] 1 true) [1]:=Qe.mk [1] true;have h2:Qe (.iS [.int .u8 2] 1 true) [2]:=Qe.mk [2] true;obtain⟨m,rfl,hm⟩:=(Zbk _ _ (Qs1 hk h1 hb true) (by simp) (by simp;omega) (by simp;omega)).op (by rfl) (Qa (Qhc (Qs1 hk h1 hb true) _ _) rfl);have hm1:∀s H,_:=fun s H=>hm 164 0 s H rfl;have hz:=Q8w [k,[1],b].flatten;have hzl:(Qds (Kk [k,[1],b].flatten) 4).length=16:=Qd3 _ 4;generalize Qds (Kk [k,[1],b].flatten) 4=z at*;obtain⟨m,rfl,hm⟩:=(Qii _ _ (Qs1 hk h2 hz true) (by simp) (by simp;omega) (by simp;omega)).op (by rfl) (Qa (Qhc (Qs1 hk h2 hz true) _ _) rfl);have hm2:∀s H,_:=fun s H=>hm 164 0 s H rfl;have hfl:[k,[2],z].flatten.length=33:=by simp;omega
   have hf:=Qe.mk [k,[2],z].flatten false;generalize[k,[2],z].flatten=q at*;obtain⟨m,rfl,hm⟩:=(Q91 _ q hf (by omega)).op (by rfl) (Qa (hf.frz _) rfl);have hm3:∀s H,_:=fun s H=>hm 164 0 s H rfl;generalize((Kk q).a:Int)=y at*;have mt:∀s,s<2000000->Qg.mt 164 s=false:=fun s h=>B2 h rfl;have pk:=Qad hk;have pb:=Qad hb;have sk:=Q7 hk;have sb:=Q7 hb;simp only[wX,↓Qc,simprocAttr,Tryz.ntmps164,len,hm1,hm2,hm3,mt,pk,pb,sk,sb,Zu0,Zu1];exact W.done (Q0.ret (v:= .tuple [.int .u32 y,.int .i64 0]) rfl rfl ⟨y,0,rfl⟩)
 . have c1:((k.length:Int) !=16)=true:=by simp;omega
   simp only[wX,↓Qc,simprocAttr,Tryz.ntmps164,len,c1];exact W.done (Q0.ret (v:= .tuple [.int .u32 0,.int .i64 2]) rfl rfl ⟨0,2,rfl⟩)
def RPut(x:V):Prop:=∃(v:V) (l:List UInt8) (e:Int),x= .tuple [v,.int .i64 e]/\Qe v l/\l.length<=4
theorem Qat(n:Int)(hn: -9223372036854775808<=n/\n<=9223372036854775807):Fz Tp Qg 67 [.int .i64 n,.int .i64 4] RPut:=by
 by_cases h:0<=n/\n<4294967296
 . obtain⟨m,rfl⟩:∃m:Nat,n=m:=⟨n.toNat,by omega⟩;refine(Zbi m (by omega)).mono ?_;rintro x rfl;exact⟨_,leB m 4,0,rfl,by have:=Qe.mk (leB m 4) false;rwa[Qaf] at this,by rw[Qaf];omega⟩
 . refine Zm Tryz.func67 rfl ?_;obtain⟨m,rfl,hm⟩:=(Qom 4).op (by rfl) rfl;have hm1:∀s H,callOp Qg (Qn Tp Qg) 67 0 s 113 [.int .i64 4] H=some (.ret (.bool true),H):=fun s H=>hm 67 0 s H rfl;have m8:(IntKind.i64).wrap 32=32:=by rw[wrap_i64]<;>omega
   have sh:∀p q,Zq Tp .shl 3 p q (.int .i64 1) (.int .i64 32)=some (.int .i64 4294967296):=fun p q=>rfl;by_cases h0:n<0
   . have c1:decide (n<0)=true:=Zrh h0;simp only[wX,↓Qc,simprocAttr,Tryz.ntmps67,hm1,c1,m8,sh];exact W.done (Q0.ret (v:= .tuple [.nS,.int .i64 2]) rfl rfl ⟨_,[],2,rfl,Qe.nil,by simp⟩)
   . have c1:decide (n<0)=false:=Zri h0;have c2:decide (n>=4294967296)=true:=Zrh (by omega);simp only[wX,↓Qc,simprocAttr,Tryz.ntmps67,hm1,c1,c2,m8,sh];exact W.done (Q0.ret (v:= .tuple [.nS,.int .i64 2]) rfl rfl ⟨_,[],2,rfl,Qe.nil,by simp⟩)
theorem Qdv(n:Int): -9223372036854775808<=(IntKind.i64).wrap n/\(IntKind.i64).wrap n<=9223372036854775807:=by rw[IntKind.wrap_i64];omega
theorem Q50(kv bv:V)(k b:List UInt8)(iv:Int)(hk:Qe kv k)(hb:Qe bv b)(hkl:k.length<=100000)(hbl:b.length=256):Fz Tp Qg 111 [kv,.int .u32 iv,bv] RNum:=by
 refine Zm Tryz.func111 rfl ?_;have cv:∀g,convertV Tp g 27 3 (.int .u32 iv)=some (.val (.int .i64 ((IntKind.i64).wrap iv)) none):=fun g=>by simp only[convertV,Zu3,Zu7]
 have hr:=Qdv iv;generalize(IntKind.i64).wrap iv=n at*;obtain⟨m,⟨pv,l,e,rfl,hl,hll⟩,hm⟩:=(Qat n hr).op (by rfl) rfl;have hm1:∀s H,_:=fun s H=>hm 111 0 s H rfl;cases c1:(e !=0)
 . obtain⟨m,rfl,hm⟩:=(Qii _ _ (rows2 hl hb true) (by simp) (by simp;omega) (by simp;omega)).op (by rfl) (Qa (Qhc (rows2 hl hb true) _ _) rfl);have hm2:∀s H,_:=fun s H=>hm 111 0 s H rfl;have hfl:[l,b].flatten.length<=100000:=by simp;omega
   have hf:=Qe.mk [l,b].flatten false;generalize[l,b].flatten=q at*;obtain⟨m,⟨y,z,rfl⟩,hm⟩:=(tag_fz kv _ k q hk hf hkl hfl).op (by rfl) (Qa (hk.frz _) (Qa (hf.frz _) rfl));have hm3:∀s H,_:=fun s H=>hm 111 0 s H rfl;have mt:∀s,s<2000000->Qg.mt 111 s=false:=fun s h=>B2 h rfl;have pl:=Qad hl;have pb:=Qad hb;have sl:=Q7 hl;have sb:=Q7 hb;simp only[wX,↓Qc,simprocAttr,Tryz.ntmps111,cv,hm1,c1,hm2,hm3,mt,pl,pb,sl,sb,Zu1];exact W.done (Q0.ret (v:= .tuple [.int .u32 y,.int .i64 z]) rfl rfl ⟨y,z,rfl⟩)
 . simp only[wX,↓Qc,simprocAttr,Tryz.ntmps111,cv,hm1,c1];exact W.done (Q0.ret (v:= .tuple [.int .u32 0,.int .i64 e]) rfl rfl ⟨0,e,rfl⟩)
theorem Q4r(kv:V)(k:List UInt8)(iv:Int)(hk:Qe kv k):Fz Tp Qg 245 [kv,.int .u32 iv] fun x=>∃(fv:V) (l:List UInt8),x= .func (.func 259) [] [.iptr [kv] 0,.iptr [fv] 0]/\Qe fv l/\l.length<=4:=by
 refine Zm Tryz.func245 rfl ?_;have cv:∀g,convertV Tp g 27 3 (.int .u32 iv)=some (.val (.int .i64 ((IntKind.i64).wrap iv)) none):=fun g=>by simp only[convertV,Zu3,Zu7]
 have hr:=Qdv iv;generalize(IntKind.i64).wrap iv=n at*;obtain⟨m,⟨pv,l,e,rfl,hl,hll⟩,hm⟩:=(Qat n hr).op (by rfl) rfl;have hm1:∀s H,_:=fun s H=>hm 245 0 s H rfl;have sk:=Q7 hk;have sl:=Q7 hl;have sks:=Q4 hk;have sls:=Q4 hl;simp only[wX,↓Qc,simprocAttr,Tryz.ntmps245,cv,hm1,sk,sl,sks,sls];refine W.done (Q0.ret (v:= .func (.func 259) [] [.ptr 0 2 0,.ptr 0 5 0]) rfl ?_ ⟨pv,l,rfl,hl,hll⟩);have e1:AM.frz (Qd [[(2,O.cells [kv]),(5,.cells [pv])]]) 11 (.ptr 0 2 0)=some (.iptr [kv] 0):=by show(Q5 (AM.frz (Qd [[(2,O.cells [kv]),(5,.cells [pv])]]) 10) [kv]).map _=_;rw[Qa (hk.frz 9) rfl];rfl
 have e2:AM.frz (Qd [[(2,O.cells [kv]),(5,.cells [pv])]]) 11 (.ptr 0 5 0)=some (.iptr [pv] 0):=by show(Q5 (AM.frz (Qd [[(2,O.cells [kv]),(5,.cells [pv])]]) 10) [pv]).map _=_;rw[Qa (hl.frz 9) rfl];rfl
 show(match Q5 (AM.frz _ 11) [],Q5 (AM.frz _ 11) [.ptr 0 2 0,.ptr 0 5 0] with|some a,some b=>some (V.func _ a b)|_,_=>none)=_;rw[Qa e1 (Qa e2 rfl)];rfl
end Go.Proofs.YtjllfbejpjonnaaGreatDoor
end
