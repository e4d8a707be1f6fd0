/- This file holds in one the texts F31, LN29, F2, D01, DT, DU, DW, DX; each says at its head what it proves. -/
import Derived.Test.YtjllfbejpjonnaaGreatDoorT12
import Derived.Test.YtjllfbejpjonnaaGreatDoorT15
import Derived.Test.YtjllfbejpjonnaaGreatDoorT16
import Derived.Test.YtjllfbejpjonnaaGreatDoorT18
import Derived.Test.YtjllfbejpjonnaaGreatDoorT20
import Derived.Test.YtjllfbejpjonnaaGreatDoorT21
import Derived.Test.YtjllfbejpjonnaaGreatDoorT23
import Derived.Test.YtjllfbejpjonnaaGreatDoorT24
import Derived.Test.YtjllfbejpjonnaaGreatDoorT25
import Derived.Test.YtjllfbejpjonnaaGreatDoorT26
import Derived.Test.YtjllfbejpjonnaaGreatDoorT29
set_option linter.unusedSimpArgs false
set_option linter.unusedVariables false
noncomputable section
section
set_option maxRecDepth 100000
namespace Go.Proofs.YtjllfbejpjonnaaGreatDoor
open Go.AM
attribute [local irreducible] U W
set_option maxHeartbeats 4000000 in
theorem Q5x(bv wv:V)(bl:List (List UInt8))(wl:List (Int×List UInt8))(hb:Z2 bv bl)(hw:Jh wv wl)(b1:bl.length<=Y4)(w1:wl.length<=Y4):Fz Tp Qg 18 [.agg [bv,wv]] fun x=>∃b,x= .bool b:=by
 refine Zm Tryz.func18 rfl ?_;have b1' :bl.length<=9223372036854775807:=b1;have w1' :wl.length<=9223372036854775807:=w1;obtain⟨bcs,hbc,hbv⟩:=hb;obtain⟨wcs,hwc,hwv⟩:=hw;have lb:=hbv.len Zu1;have lw:=hwv.len Zu5;have bsc:bv.scalar=true:=Q4 hbv;have wsc:wv.scalar=true:=Q4 hwv;simp only[wX,↓Qc,simprocAttr,Tryz.ntmps18,wsc,bsc,lw,lb]
 repeat' ((first|refine W.guardF ?_ ?_|refine W.guardT ?_ ?_|refine W.guardXF ?_ ?_|refine W.guardXT ?_ ?_|refine W.ite ?_ ?_|refine W.opsK1 (by kernel_rfl) ?_)<;>intro h<;>simp only[wX,↓Qc,simprocAttr,h,wsc,bsc,lw,lb])
 all_goals first
  |exact W.done (Q0.ret rfl rfl ⟨_,rfl⟩)
  |skip
 all_goals
  refine W.ul ?_;refine W.loop (fun(i:Nat) t H=>∃n:Int,Jg [1,3,4] t 0=Q8b (.ptr 0 1 0) (.int .i64 n) (.int .i64 i)/\i<=bl.length/\H=[[(1,.cells [bv,wv])]]) (fun i=>bl.length-i) ?_ 0 ⟨0,rfl,Zq1 _,rfl⟩;rintro i t H ⟨n,ht,hi,rfl⟩;refine⟨_,_,Zx (kt:=[1,3,4]) rfl rfl,?_⟩;rw[ht];simp only[Q8b];by_cases h:i<bl.length
  case pos=>
   have c1:decide ((i:Int)<bl.length)=true:=Zrh (by omega);have wi:(IntKind.i64).wrap ((i:Int)+1)=((i+1:Nat):Int):=by rw[wrap_i64]<;>omega
   obtain⟨v,h1,hv⟩:=hbc.at_ h;have g1:bcs[(i:Int).toNat*1]?=some v:=by simpa using h1
   have g2:bcs[(i:Int).toNat]?=some v:=by simpa using h1
   have lv:=hv.len Zu0;have at1:=hbv.at (k:= .i64) Zu1 Qau (by decide) (i:=(i:Int)) (by omega) (by omega);cases c2:decide (n<2000000)
   case true=>simp only[wX,↓Qc,simprocAttr,c1,c2,at1,g1,g2,lv,wi,lb,bsc,wsc];exact W.done ⟨i+1,⟨_,rfl,by omega,rfl⟩,by omega⟩
   simp only[wX,↓Qc,simprocAttr,c1,c2,lb,bsc,wsc];refine W.done ?_;simp only[wX,↓Qc,simprocAttr,lw,lb,bsc,wsc];refine W.ul ?_;refine W.loop (fun(j:Nat) t H=>∃n:Int,Jg [1,3,5] t 0=Qvr (.ptr 0 1 0) (.int .i64 n) (.int .i64 j)/\j<=wl.length/\H=[[(1,.cells [bv,wv])]]) (fun j=>wl.length-j) ?_ 0 ⟨_,rfl,Zq1 _,rfl⟩;rintro j t2 H2 ⟨n2,ht2,hj,rfl⟩;refine⟨_,_,Zx (kt:=[1,3,5]) rfl rfl,?_⟩;rw[ht2];simp only[Qvr];rcases Classical.em (j<wl.length) with h2|h2
   . have d1:decide ((j:Int)<wl.length)=true:=Zrh (by omega);have wj:(IntKind.i64).wrap ((j:Int)+1)=((j+1:Nat):Int):=by rw[wrap_i64]<;>omega
     obtain⟨_,v2,e2,hv2⟩:=hwc.at_ h2;have g3:wcs[(j:Int).toNat*2+1]?=some v2:=by rw[show(j:Int).toNat*2+1=2*j+1 by omega];exact e2
     have lv2:=hv2.len Zu0;have at2:=hwv.at (k:= .i64) Zu5 Qcm (by decide) (i:=(j:Int)) (by omega) (by omega);cases d2:decide (n2<2000000)
     . simp only[wX,↓Qc,simprocAttr,d1,d2,lw,bsc,wsc];refine W.done ?_;simp only[wX,↓Qc,simprocAttr];exact W.done (Q0.ret rfl rfl ⟨_,rfl⟩)
     . simp only[wX,↓Qc,simprocAttr,d1,d2,at2,g3,lv2,wj,lw,bsc,wsc];exact W.done ⟨j+1,⟨_,rfl,by omega,rfl⟩,by omega⟩
   . have d1:decide ((j:Int)<wl.length)=false:=Zri (by omega);simp only[wX,↓Qc,simprocAttr,d1,lw,bsc,wsc];refine W.done ?_;simp only[wX,↓Qc,simprocAttr];exact W.done (Q0.ret rfl rfl ⟨_,rfl⟩)
  case neg=>
   have c1:decide ((i:Int)<bl.length)=false:=Zri (by omega);simp only[wX,↓Qc,simprocAttr,c1,lb,bsc,wsc];refine W.done ?_;simp only[wX,↓Qc,simprocAttr,lw,lb,bsc,wsc];refine W.ul ?_;refine W.loop (fun(j:Nat) t H=>∃n:Int,Jg [1,3,5] t 0=Qvr (.ptr 0 1 0) (.int .i64 n) (.int .i64 j)/\j<=wl.length/\H=[[(1,.cells [bv,wv])]]) (fun j=>wl.length-j) ?_ 0 ⟨_,rfl,Zq1 _,rfl⟩;rintro j t2 H2 ⟨n2,ht2,hj,rfl⟩;refine⟨_,_,Zx (kt:=[1,3,5]) rfl rfl,?_⟩;rw[ht2];simp only[Qvr];rcases Classical.em (j<wl.length) with h2|h2
   . have d1:decide ((j:Int)<wl.length)=true:=Zrh (by omega);have wj:(IntKind.i64).wrap ((j:Int)+1)=((j+1:Nat):Int):=by rw[wrap_i64]<;>omega
     obtain⟨_,v2,e2,hv2⟩:=hwc.at_ h2;have g3:wcs[(j:Int).toNat*2+1]?=some v2:=by rw[show(j:Int).toNat*2+1=2*j+1 by omega];exact e2
     have lv2:=hv2.len Zu0;have at2:=hwv.at (k:= .i64) Zu5 Qcm (by decide) (i:=(j:Int)) (by omega) (by omega);cases d2:decide (n2<2000000)
     . simp only[wX,↓Qc,simprocAttr,d1,d2,lw,bsc,wsc];refine W.done ?_;simp only[wX,↓Qc,simprocAttr];exact W.done (Q0.ret rfl rfl ⟨_,rfl⟩)
     . simp only[wX,↓Qc,simprocAttr,d1,d2,at2,g3,lv2,wj,lw,bsc,wsc];exact W.done ⟨j+1,⟨_,rfl,by omega,rfl⟩,by omega⟩
   . have d1:decide ((j:Int)<wl.length)=false:=Zri (by omega);simp only[wX,↓Qc,simprocAttr,d1,lw,bsc,wsc];refine W.done ?_;simp only[wX,↓Qc,simprocAttr];exact W.done (Q0.ret rfl rfl ⟨_,rfl⟩)
theorem Q12{bv wv sv:V}{bl wl sp}(h:Xn bv wv sv bl wl sp)(e c:Int):Fz Tp Qg 9 [Yu bv wv sv e c] fun x=>∃b,x= .bool b:=by
 refine Zm Tryz.func9 rfl ?_;obtain⟨m,⟨g,rfl⟩,hm⟩:=(Q5x bv wv bl wl h.blocks h.waits h.b1 h.w1).op (by rfl) (Qa (Ks h.blocks h.waits _) rfl);have hm1:∀s H,_:=fun s H=>hm 9 0 s H rfl;obtain⟨_,_,h1⟩:=id h.blocks;obtain⟨_,_,h2⟩:=id h.waits;have sb:=Q4 h1;have sw:=Q4 h2;have ss:=Q4 h.space;have ls:=h.space.len Zu0;cases g
 all_goals
  simp only[wX,↓Qc,simprocAttr,Tryz.ntmps9,sb,sw,ss,ls,hm1]
  repeat' ((first|refine W.guardF ?_ ?_|refine W.guardT ?_ ?_|refine W.guardXF ?_ ?_|refine W.guardXT ?_ ?_|refine W.ite ?_ ?_|refine W.opsK1 (by kernel_rfl) ?_)<;>intro h<;>simp only[wX,↓Qc,simprocAttr,h,sb,sw,ss,ls,hm1])
  all_goals exact W.done (Q0.ret rfl rfl ⟨_,rfl⟩)
section
variable {bv wv sv mv lv kv ov cv : V} {x : Kc}
set_option maxHeartbeats 8000000 in
theorem Q0a(h:K5 bv wv sv mv lv kv ov cv x)(f:x.Fits):Fz Tp Qg 5 [.agg (Qf bv wv sv mv lv kv ov cv x.p)] fun r=>∃b,r= .bool b:=by
 refine Zm Tryz.func5 rfl ?_;obtain⟨m,⟨g,rfl⟩,hm⟩:=(Q12 (Qog h f) x.p.epoch x.p.count).op (by rfl) (Qa (Qbl (Qog h f) _ _ _) rfl);have hm1:∀s H,_:=fun s H=>hm 5 0 s H rfl;obtain⟨s1,s2,s3,s4,s5,s6,s7,s8⟩:=Qia h;obtain⟨lcs,hlcs,hlv⟩:=id h.lines;obtain⟨kcs,hkcs,hkv⟩:=id h.keys;obtain⟨ocs,hocs,hov⟩:=id h.loaded;obtain⟨ccs,hccs,hcv⟩:=id h.changes;have f1:x.p.lines.length<=9223372036854775807:=f.lines;have f2:x.p.changes.length<=9223372036854775807:=f.changes;have f3:x.p.keys.length<=9223372036854775807:=f.keys;have f4:x.p.loaded.length<=9223372036854775807:=f.loaded;have lm:=h.own.len Zu4;have ll:=hlv.len Zu6;have lk:=hkv.len Zu1;have lo:=hov.len Zu1;have lc:=hcv.len Zu2;have bm:∀mt fr g d ts a b,builtinV Tp mt fr g d .min ts [.int .i64 a,.int .i64 b]=some (.val (.int .i64 (if b<a then b else a)) none):=fun _ _ _ _ _ _ _=>rfl;have q256:∀u v a,Zq Tp .quo 3 u v (.int .i64 a) (.int .i64 256)=some (.int .i64 ((IntKind.i64).wrap (a.tdiv 256))):=fun _ _ _=>rfl;have q24:∀u v a,Zq Tp .quo 3 u v (.int .i64 a) (.int .i64 24)=some (.int .i64 ((IntKind.i64).wrap (a.tdiv 24))):=fun _ _ _=>rfl;have q16:∀u v a,Zq Tp .quo 3 u v (.int .i64 a) (.int .i64 16)=some (.int .i64 ((IntKind.i64).wrap (a.tdiv 16))):=fun _ _ _=>rfl;have chd:∀i:Nat,i<x.p.changes.length->∃(dv:V) (k:Nat),ccs[(i:Int).toNat*12+6]?=some dv/\∀g,Ku Tp g 26 dv=some (.int .i64 k):=by intro i hi;obtain⟨dv,k,h1,h2,_⟩:=hccs.at_ hi;refine⟨dv,k.length,?_,fun g=>h2.len Zu0 g⟩;have:=congrArg (fun l=>l[6]?) h1;simp only[Zoe,Zpy,Ql] at this;rw[show(i:Int).toNat*12+6=i*12+6 by omega];simpa using this
 simp only[Qf,Yu] at hm1⊢;cases g
 all_goals
  simp only[wX,↓Qc,simprocAttr,Tryz.ntmps5,hm1,s1,s2,s3,s4,s5,s6,s7,s8,lm,ll,lk,lo,lc]
  repeat' ((first|refine W.guardF ?_ ?_|refine W.guardT ?_ ?_|refine W.guardXF ?_ ?_|refine W.guardXT ?_ ?_|refine W.ite ?_ ?_|refine W.opsK1 (by kernel_rfl) ?_)<;>intro h<;>simp only[wX,↓Qc,simprocAttr,h,hm1,s1,s2,s3,s4,s5,s6,s7,s8,lm,ll,lk,lo,lc])
 all_goals first
  |exact W.done (Q0.ret rfl rfl ⟨_,rfl⟩)
  |skip
 all_goals
  refine W.ul ?_;refine W.loop (fun(i:Nat) t H=>∃n:Int,Jg [1,3,4] t 0=st5_5 (.ptr 0 1 0) (.int .i64 n) (.int .i64 i)/\i<=x.p.lines.length/\H=[[(1,.cells (Qf bv wv sv mv lv kv ov cv x.p))]]) (fun i=>x.p.lines.length-i) ?_ 0 ⟨_,rfl,Zq1 _,rfl⟩;rintro i t H ⟨n,ht,hi,rfl⟩;refine⟨_,_,Zx (kt:=[1,3,4]) rfl rfl,?_⟩;rw[ht];simp only[st5_5,Qf];have key:i<x.p.lines.length\/¬i<x.p.lines.length:=Classical.em _;rcases key with h0|h0
  . have c1:decide ((i:Int)<x.p.lines.length)=true:=Zrh (by omega);have wi:(IntKind.i64).wrap ((i:Int)+1)=((i+1:Nat):Int):=by rw[wrap_i64]<;>omega
    obtain⟨dv,hd1,hd2⟩:=hlcs.at_ (Zn1 h0);have g1:lcs[(i:Int).toNat*13+12]?=some dv:=by have:=congrArg (fun l=>l[12]?) hd1;simp only[Zoe,Zpy,J3] at this;rw[show(i:Int).toNat*13+12=i*13+12 by omega];simpa using this
    have ld:=hd2.len Zu8;have at1:=hlv.at (k:= .i64) Zu6 Qin (by decide) (i:=(i:Int)) (by omega) (by omega);simp only[wX,↓Qc,simprocAttr,c1,wi,at1,g1,ld,bm,q256,q24,q16,s1,s2,s3,s4,s5,s6,s7,s8,ll,lk,lo,lc];exact W.done ⟨i+1,⟨_,rfl,by omega,rfl⟩,by omega⟩
  have c1:decide ((i:Int)<x.p.lines.length)=false:=Zri (by omega);simp only[wX,↓Qc,simprocAttr,c1,s1,s2,s3,s4,s5,s6,s7,s8,ll,lk,lo,lc];clear hi h0 c1 ht;refine W.done ?_;simp only[wX,↓Qc,simprocAttr,s1,s2,s3,s4,s5,s6,s7,s8,ll,lk,lo,lc];refine W.ul ?_;refine W.loop (fun(i:Nat) t H=>∃n:Int,Jg [1,3,5] t 0=st5_9 (.ptr 0 1 0) (.int .i64 n) (.int .i64 i)/\i<=x.p.changes.length/\H=[[(1,.cells (Qf bv wv sv mv lv kv ov cv x.p))]]) (fun i=>x.p.changes.length-i) ?_ 0 ⟨_,rfl,Zq1 _,rfl⟩;rintro i t H ⟨n,ht,hi,rfl⟩;refine⟨_,_,Zx (kt:=[1,3,5]) rfl rfl,?_⟩;rw[ht];simp only[st5_9,Qf];have key:i<x.p.changes.length\/¬i<x.p.changes.length:=Classical.em _;rcases key with h0|h0
  . have c1:decide ((i:Int)<x.p.changes.length)=true:=Zrh (by omega);have wi:(IntKind.i64).wrap ((i:Int)+1)=((i+1:Nat):Int):=by rw[wrap_i64]<;>omega
    obtain⟨dv,k,hd,hl⟩:=chd i h0;have ld:=fun g=>hl g;have at1:=hcv.at (k:= .i64) Zu2 Qdq (by decide) (i:=(i:Int)) (by omega) (by omega);simp only[wX,↓Qc,simprocAttr,c1,wi,at1,hd,ld,bm,q256,q24,q16,s1,s2,s3,s4,s5,s6,s7,s8,ll,lk,lo,lc];exact W.done ⟨i+1,⟨_,rfl,by omega,rfl⟩,by omega⟩
  have c1:decide ((i:Int)<x.p.changes.length)=false:=Zri (by omega);simp only[wX,↓Qc,simprocAttr,c1,s1,s2,s3,s4,s5,s6,s7,s8,ll,lk,lo,lc];clear hi h0 c1 ht;refine W.done ?_;simp only[wX,↓Qc,simprocAttr,s1,s2,s3,s4,s5,s6,s7,s8,ll,lk,lo,lc];refine W.ul ?_;refine W.loop (fun(i:Nat) t H=>∃n:Int,Jg [1,3,6] t 0=Q98 (.ptr 0 1 0) (.int .i64 n) (.int .i64 i)/\i<=x.p.keys.length/\H=[[(1,.cells (Qf bv wv sv mv lv kv ov cv x.p))]]) (fun i=>x.p.keys.length-i) ?_ 0 ⟨_,rfl,Zq1 _,rfl⟩;rintro i t H ⟨n,ht,hi,rfl⟩;refine⟨_,_,Zx (kt:=[1,3,6]) rfl rfl,?_⟩;rw[ht];simp only[Q98,Qf];have key:i<x.p.keys.length\/¬i<x.p.keys.length:=Classical.em _;rcases key with h0|h0
  . have c1:decide ((i:Int)<x.p.keys.length)=true:=Zrh (by omega);have wi:(IntKind.i64).wrap ((i:Int)+1)=((i+1:Nat):Int):=by rw[wrap_i64]<;>omega
    obtain⟨v,h1,hv⟩:=hkcs.at_ h0;have g1:kcs[(i:Int).toNat*1]?=some v:=by simpa using h1
    have g2:kcs[(i:Int).toNat]?=some v:=by simpa using h1
    have lv:=hv.len Zu0;have at1:=hkv.at (k:= .i64) Zu1 Qau (by decide) (i:=(i:Int)) (by omega) (by omega);simp only[wX,↓Qc,simprocAttr,c1,wi,at1,g1,g2,lv,bm,q256,q24,q16,s1,s2,s3,s4,s5,s6,s7,s8,ll,lk,lo,lc];exact W.done ⟨i+1,⟨_,rfl,by omega,rfl⟩,by omega⟩
  have c1:decide ((i:Int)<x.p.keys.length)=false:=Zri (by omega);simp only[wX,↓Qc,simprocAttr,c1,s1,s2,s3,s4,s5,s6,s7,s8,ll,lk,lo,lc];clear hi h0 c1 ht;refine W.done ?_;simp only[wX,↓Qc,simprocAttr,s1,s2,s3,s4,s5,s6,s7,s8,ll,lk,lo,lc];refine W.ul ?_;refine W.loop (fun(i:Nat) t H=>∃n:Int,Jg [1,3,7] t 0=Q8d (.ptr 0 1 0) (.int .i64 n) (.int .i64 i)/\i<=x.p.loaded.length/\H=[[(1,.cells (Qf bv wv sv mv lv kv ov cv x.p))]]) (fun i=>x.p.loaded.length-i) ?_ 0 ⟨_,rfl,Zq1 _,rfl⟩;rintro i t H ⟨n,ht,hi,rfl⟩;refine⟨_,_,Zx (kt:=[1,3,7]) rfl rfl,?_⟩;rw[ht];simp only[Q8d,Qf];have key:i<x.p.loaded.length\/¬i<x.p.loaded.length:=Classical.em _;rcases key with h0|h0
  . have c1:decide ((i:Int)<x.p.loaded.length)=true:=Zrh (by omega);have wi:(IntKind.i64).wrap ((i:Int)+1)=((i+1:Nat):Int):=by rw[wrap_i64]<;>omega
    obtain⟨v,h1,hv⟩:=hocs.at_ h0;have g1:ocs[(i:Int).toNat*1]?=some v:=by simpa using h1
    have g2:ocs[(i:Int).toNat]?=some v:=by simpa using h1
    have lv:=hv.len Zu0;have at1:=hov.at (k:= .i64) Zu1 Qau (by decide) (i:=(i:Int)) (by omega) (by omega);simp only[wX,↓Qc,simprocAttr,c1,wi,at1,g1,g2,lv,bm,q256,q24,q16,s1,s2,s3,s4,s5,s6,s7,s8,ll,lk,lo,lc];exact W.done ⟨i+1,⟨_,rfl,by omega,rfl⟩,by omega⟩
  have c1:decide ((i:Int)<x.p.loaded.length)=false:=Zri (by omega);simp only[wX,↓Qc,simprocAttr,c1,s1,s2,s3,s4,s5,s6,s7,s8,ll,lk,lo,lc];clear hi h0 c1 ht;refine W.done ?_;simp only[wX,↓Qc,simprocAttr,s1,s2,s3,s4,s5,s6,s7,s8,ll,lk,lo,lc];exact W.done (Q0.ret rfl rfl ⟨_,rfl⟩)
end
end Go.Proofs.YtjllfbejpjonnaaGreatDoor
namespace Go.Proofs.YtjllfbejpjonnaaGreatDoor
open Go.AM
attribute [local irreducible] U W
theorem Qan(q:Nat->Nat->Bool)(v:V):v.pure=true->v.refs q=false:=by refine V.rec (motive_1:=fun v=>v.pure=true->v.refs q=false) (motive_2:=fun l=>Qu l=true->Qi q l=false) ?_ ?_ ?_ ?_ ?_ ?_ ?_ ?_ ?_ ?_ ?_ ?_ ?_ ?_ ?_ ?_ ?_ ?_ ?_ ?_ ?_ ?_ ?_ ?_ v<;>intros<;>simp_all[V.pure,Qu,V.refs,Qi]
def polDL:Pol:={Qg with keep:=fun f r=>match f,r with
 |3,9=>some ([1,2,5,6,8,9],[10,11])
 |_,_=>Qg.keep f r}
theorem okDL:Okay Tp polDL where
 mixed:=okD.mixed
 draws:=okD.draws
 loops:=okD.loops
 num:=okD.num
 prim:=okD.prim
def lawK:FuncId->Option (List V->Option V):=fun f=>
 if f=4 then some (fun xs=>match xs with|[]=>some (.bool true)|_=>none)
 else if f=5\/f=6 then some (BM.fzK Tp Qg f)
 else none
def Qjp:Pol:=BM.givenP polDL lawK
theorem Zen(al:BM.Ans Tp 4 [] (.bool true)):Okay Tp Qjp:=by
 refine BM.givenP_ok okDL ?_;intro f k hk xs y h;unfold lawK at hk;split at hk
 . rename_i e;subst e;cases hk;cases xs with
   |nil=>cases h;exact⟨rfl,al⟩
   |cons a b=>cases h
 . split at hk
   . cases hk;exact BM.fzK_ok okD xs y h
   . cases hk
theorem Zdw{x y:Operand}(p q:Yb):Zq Tp .neq 31 x y (.agg p.cells) (.agg q.cells)=some (.bool (!decide (p=q))):=by
 have h1:=Qgf (x:=x) (y:=y) p q;have e1:Qis Tp 31 x y (.agg p.cells) (.agg q.cells)=some (decide (p=q)):=by
  simp only[Zq] at h1;cases hq:Qis Tp 31 x y (.agg p.cells) (.agg q.cells) with
  |none=>rw[hq] at h1;cases h1
  |some b=>rw[hq] at h1;simpa using h1
 simp only[Zq,e1,Zn2]
section
variable {bv wv sv mv lv kv ov cv : V} {x : Kc}
theorem Q6n(h:K5 bv wv sv mv lv kv ov cv x):(V.agg (Qf bv wv sv mv lv kv ov cv x.p)).pure=true:=by obtain⟨_,_,h1⟩:=h.blocks;obtain⟨_,_,h2⟩:=h.waits;obtain⟨_,_,h5⟩:=h.lines;obtain⟨_,_,h6⟩:=h.keys;obtain⟨_,_,h7⟩:=h.loaded;obtain⟨_,_,h8⟩:=h.changes;simp only[Qf,V.pure,Qu,h1.pure,h2.pure,Qw.pure h.space,Qw.pure h.own,h5.pure,h6.pure,h7.pure,h8.pure,Zqc]
theorem Q7d{C:AM.Call}{fn fr:Nat}{d:Option Nat}{H:AM.Heap}:callOp Qjp C fn fr d 4 [] H=some (.ret (.bool true),H):=
 BM.given_op (k:=fun xs=>match xs with|[]=>some (.bool true)|_=>none) (by unfold lawK;exact if_pos rfl) rfl
theorem Qtl{f:FuncId}(hf:f=5\/f=6){args:List V}{y:V}(h:Fz Tp Qg f args fun r=>r=y)(hx:Qu args=true)(hy:y.pure=true){C:AM.Call}{fn fr:Nat}{d:Option Nat}{H:AM.Heap}:callOp Qjp C fn fr d f args H=some (.ret y,H):=by refine BM.given_op (k:=BM.fzK Tp Qg f) ?_ (BM.fzK_eq h hx hy);unfold lawK;rw[if_neg (by rcases hf with rfl|rfl<;>decide),if_pos hf]
theorem Qcq:Qjp.mt=Qg.mt:=rfl
theorem Q8l{P:Program}{pol:Pol}{f:FuncId}{args:List V}{R:V->Prop}(h:Fz P pol f args R):∃v,R v/\Fz P pol f args fun x=>x=v:=by obtain⟨a,b,c,h1,h2,h3⟩:=h;exact⟨_,h3,a,b,c,h1,h2,rfl⟩
set_option maxHeartbeats 8000000 in
theorem Q1c(h:K5 bv wv sv mv lv kv ov cv x)(f:x.Fits)(id:Int):Fz Tp Qjp 3 [.agg (Qf bv wv sv mv lv kv ov cv x.p),.int .i64 id] fun r=>r= .bool true:=by
 refine Zm Tryz.func3 rfl ?_;have pp:=Q6n h;have pq:Qu (Qf bv wv sv mv lv kv ov cv x.p)=true:=pp;obtain⟨_,⟨gr,rfl⟩,hG⟩:=Q8l (Q0a h f);have kA:∀fn fr d H,callOp Qjp (Qn Tp Qjp) fn fr d 4 [] H=_:=fun fn fr d H=>Q7d;have kG:∀fn fr d H,callOp Qjp (Qn Tp Qjp) fn fr d 5 [.agg (Qf bv wv sv mv lv kv ov cv x.p)] H=_:=fun fn fr d H=>Qtl (.inl rfl) hG (by simp only[Qu,pp,Zo9]) rfl;obtain⟨y,hy,hL⟩:=Q8l (Q61 h f id);obtain⟨s1,s2,s3,s4,s5,s6,s7,s8⟩:=Qia h;cases gr
 case true=>simp only[Qf] at kG⊢;simp only[wX,↓Qc,simprocAttr,Zu10,Qcq,kA,kG,s1,s2,s3,s4,s5,s6,s7,s8];exact W.done (Q0.ret rfl rfl rfl)
 have kC:y.pure=true->∀fn fr d H,callOp Qjp (Qn Tp Qjp) fn fr d 6 [.agg (Qf bv wv sv mv lv kv ov cv x.p),.int .i64 id] H=some (.ret y,H):=fun hyp fn fr d H=>Qtl (.inr rfl) hL (by simp only[Qu,V.pure,pq,Zo9]) hyp;rcases hy with⟨e,he,rfl⟩|⟨b,w,s,m,l,k,o,c,ep,ct,lg,L',cs',n,rfl,⟨z1,z2,z3,z4,z5,z6,z7,z8,zp⟩,hch,hsl,rfl,hSe,hok⟩
 . have kC1:=kC rfl;have c1:(e !=0)=true:=by simpa using he
   simp only[Qf,Yy] at kG kC1⊢;simp only[wX,↓Qc,simprocAttr,Zu10,Qcq,kA,kG,kC1,s1,s2,s3,s4,s5,s6,s7,s8,c1];exact W.done (Q0.ret rfl rfl rfl)
 . have kC1:=kC (by
    simp only[Qu,Zok] at zp;obtain⟨u1,u2,u3,u4,u5,u6,u7,u8,_⟩:=zp
    simp only[V.pure,Qu,Qf,u1,u2,u3,u4,u5,u6,u7,u8,Zqc])
   obtain⟨ccs,hcc,hcv⟩:=(show _ from h.changes);obtain⟨_,_,he1,he2,hct⟩:=Qer (Qh3 hok).store;have hgm:=Qx9 hok;have hep:1<=x.p.epoch/\x.p.epoch<=65535:=⟨he1,he2⟩;have pch0:=Bv hok;have lc:=hcv.len Zu2;have lq:=hsl.len Zu2;have c2:((0:Int) !=0)=false:=rfl;have c3:((x.p.changes.length:Int) !=x.p.changes.length)=false:=bne_self_eq_false _;simp only[Qf] at kG kC1⊢;simp only[wX,↓Qc,simprocAttr,Zu10,Qcq,kA,kG,kC1,s1,s2,s3,s4,s5,s6,s7,s8,z1,z2,z3,z4,z5,z6,z7,z8,lc,lq,c2,c3];obtain⟨u1,u2,u3,u4,u5,u6,u7,u8,_⟩:=(show b.pure=true/\w.pure=true/\s.pure=true/\m.pure=true/\l.pure=true/\k.pure=true/\o.pure=true/\c.pure=true/\True by
    simp only[Qu,Zok] at zp;obtain⟨u1,u2,u3,u4,u5,u6,u7,u8,_⟩:=zp
    exact⟨u1,u2,u3,u4,u5,u6,u7,u8,trivial⟩)
   have qr:∀q,Qi q (Qf b w s m l k o c {x.p with epoch:=ep,count:=x.p.count+n,logged:=lg})=false:=fun q=>by simp only[Qf,Qi,V.refs,Qan q _ u1,Qan q _ u2,Qan q _ u3,Qan q _ u4,Qan q _ u5,Qan q _ u6,Qan q _ u7,Qan q _ u8,Zqs]
   refine W.ul ?_;refine W.loop (fun(i:Nat) t H=>∃kk:Nat,Jg [1,2,5,6,8,9] t 0=st3_9 (.int .i64 id) (.ptr 0 2 0) (.bool true) (.ptr 0 6 0) (.int .u32 kk) (.int .i64 i)/\i<=x.p.changes.length/\Bz id (x.p.gen+1) x.p.epoch x.p.count kk (x.p.changes.drop i) (L'.drop i) n/\
    (H=[[(2,.cells (Qf bv wv sv mv lv kv ov cv x.p)),(6,.cells (Qf b w s m l k o c {x.p with epoch:=ep,count:=x.p.count+n,logged:=lg}))]]\/∃d e,H=[[(2,.cells (Qf bv wv sv mv lv kv ov cv x.p)),(6,.cells (Qf b w s m l k o c {x.p with epoch:=ep,count:=x.p.count+n,logged:=lg})),(10,.cells d),(11,.cells e)]])) (fun i=>x.p.changes.length-i) ?_ 0
    ⟨0,rfl,Zq1 _,by simpa using hSe,.inl rfl⟩
   rintro i t H ⟨kk,ht,hi,hSd,hH⟩;have hfor:forget Qjp 3 0 9 t H=some (Jg [1,2,5,6,8,9] t 0,[[(2,.cells (Qf bv wv sv mv lv kv ov cv x.p)),(6,.cells (Qf b w s m l k o c {x.p with epoch:=ep,count:=x.p.count+n,logged:=lg}))]]):=by
    have e1:List.modify H 0 (Ju fun s=>[10,11].contains s)=[[(2,.cells (Qf bv wv sv mv lv kv ov cv x.p)),(6,.cells (Qf b w s m l k o c {x.p with epoch:=ep,count:=x.p.count+n,logged:=lg}))]]:=by rcases hH with rfl|⟨d,e,rfl⟩<;>rfl
    have:=Z7 (pol:=Qjp) (fn:=3) (fr:=0) (r:=9) (kt:=[1,2,5,6,8,9]) (ds:=[10,11]) (t:=t) (H:=H) rfl (by rw[ht];rfl)
     (by
       rw[e1]
       simp only[Q2,Zg,Qbx,Qe7 h,qr];rfl)
    rw[e1] at this;exact this
   refine⟨_,_,hfor,?_⟩;rw[ht];simp only[st3_9,Qf];have pch:True:=trivial;have key:i<x.p.changes.length\/¬i<x.p.changes.length:=Classical.em _;rcases key with h0|h0
   . have fch:x.p.changes.length<=9223372036854775807:=f.changes;obtain⟨hn1,hn2⟩:=f.nums;have good:True:=trivial;have hl' :=hSe.len.1;have hi' :i<L'.length:=by omega
     have c4:decide ((i:Int)<x.p.changes.length)=true:=Zrh (by omega);have wi:(IntKind.i64).wrap ((i:Int)+1)=((i+1:Nat):Int):=by rw[wrap_i64]<;>omega
     have at1:=hcv.at (k:= .i64) Zu2 Qdq (by decide) (i:=(i:Int)) (by omega) (by omega);have at2:=hsl.at (k:= .i64) Zu2 Qdq (by decide) (i:=(i:Int)) (by omega) (by omega);rw[show(i:Int).toNat*12=i*12 by omega] at at1 at2;obtain⟨dv,q0,qi,q1,q2⟩:=hcc.at2 h0;obtain⟨dv',r0,ri,r1,r2⟩:=hch.at2 hi';have hcl:=Qbg hcc;have hcl' :=Qbg hch;have rdc:Q3 Tp 43 ccs (i*12)=some (.agg (Ql x.p.changes[i] dv)):=by rw[Quz,if_pos (by omega),q0]
     have rdd:Q3 Tp 43 cs' (i*12)=some (.agg (Ql L'[i] dv')):=by rw[Quz,if_pos (by omega),r0]
     have y1:=Q4 q1;have y2:=Q4 r1;have y3:=Q7 q1;have y4:=Q7 r1;rw[Zqt h0,Zqt hi'] at hSd;rcases(show _\/_ from hSd) with⟨hsame,hS'⟩|⟨hp0,hset,hkb,⟨pt,tt,ss,hd⟩,hS'⟩
     . rw[hsame] at rdd;generalize x.p.changes[i]=ch at*;obtain⟨d1,d2,d3,d4,d5,d6,d7,⟨p1,p2,p3,p4,p5⟩⟩:=ch;have hq:∀x y,Zq Tp .eql 31 x y (.agg [.int .i64 p1,.int .u32 p2,.int .u32 p3,.int .u32 p4,.int .u32 p5]) (.agg [.int .i64 p1,.int .u32 p2,.int .u32 p3,.int .u32 p4,.int .u32 p5])=some (.bool true):=fun x y=>by
        have:=Qgf (x:=x) (y:=y) ⟨p1,p2,p3,p4,p5⟩ ⟨p1,p2,p3,p4,p5⟩;simpa [Yb.cells] using this
       simp only[Ql] at rdc rdd;simp only[wX,↓Qc,simprocAttr,Zu10,Qcq,s1,s2,s3,s4,s5,s6,s7,s8,z1,z2,z3,z4,z5,z6,z7,z8,lc,lq,c4,wi,at1,at2,rdc,rdd,y1,y2,y3,y4,hq];refine W.opsT (by kernel_rfl) ?_;simp only[wX,↓Qc,simprocAttr,Zu10,Qcq,s1,s2,s3,s4,s5,s6,s7,s8,z1,z2,z3,z4,z5,z6,z7,z8,lc,lq,c4,wi,at1,at2,rdc,rdd,y1,y2,y3,y4,hq];exact W.done ⟨i+1,⟨kk,rfl,by omega,hS',.inr ⟨_,_,rfl⟩⟩,by omega⟩
     . rw[hd] at rdd;have hl2:∀d∈x.p.changes.drop (i+1),True:=fun _ _=>trivial;generalize x.p.changes[i]=ch at*;obtain⟨d1,d2,d3,d4,d5,d6,d7,p⟩:=ch;simp only at hp0 hset hd;subst hp0 hset;have hq:∀x' y',Zq Tp .eql 31 x' y' (.agg Bf.cells) (.agg (⟨pt,x.p.gen+1,x.p.epoch*65536+(x.p.count+kk+1),tt,ss⟩:Yb).cells)=some (.bool false):=fun x' y' =>by
        rw[Qgf];congr 2;refine Zri fun h=>?_;have:=congrArg Yb.birth h;simp only[Bf] at this;omega
       have hq2:∀x' y',Zq Tp .neq 31 x' y' (.agg Bf.cells) (.agg Bf.cells)=some (.bool false):=fun x' y' =>by rw[Zdw,Zrh rfl];rfl
       have sh:∀p q,Zq Tp .shl 27 p q (.int .u32 x.p.epoch) (.int .i64 16)=some (.int .u32 (x.p.epoch*65536)):=Quc _ hep;have sh2:∀p q,Zq Tp .shl 27 p q (.int .u32 x.p.epoch) (.int .u64 16)=some (.int .u32 (x.p.epoch*65536)):=Quc _ hep;have sh3:∀p q,Zq Tp .shl 27 p q (.int .u32 x.p.epoch) (.int .u32 16)=some (.int .u32 (x.p.epoch*65536)):=Quc _ hep;have wu:∀z:Int,0<=z->z<4294967296->(IntKind.u32).wrap z=z:=fun z h1 h2=>by simp only[IntKind.wrap,IntKind.bits,IntKind.signed,Zqy,Zn5,if_false];omega
       have wk:(IntKind.u32).wrap ((kk:Int)+1)=((kk+1:Nat):Int):=by rw[wu _ (by omega) (by omega)];omega
       have wg:(IntKind.u32).wrap (x.p.gen+1)=x.p.gen+1:=wu _ (by omega) (by omega);have wc:(IntKind.u32).wrap (x.p.epoch*65536+x.p.count)=x.p.epoch*65536+x.p.count:=wu _ (by omega) (by omega);have wn:(IntKind.u32).wrap (x.p.epoch*65536+x.p.count+((kk+1:Nat):Int))=x.p.epoch*65536+(x.p.count+kk+1):=by rw[wu _ (by omega) (by omega)];omega
       simp only[Ql,Bf,Yb.cells] at rdc rdd hq hq2;simp only[wX,↓Qc,simprocAttr,Zu10,Qcq,s1,s2,s3,s4,s5,s6,s7,s8,z1,z2,z3,z4,z5,z6,z7,z8,lc,lq,c4,wi,at1,at2,rdc,rdd,y1,y2,y3,y4,hq];refine W.opsT (by kernel_rfl) ?_;simp only[wX,↓Qc,simprocAttr,Zu10,Qcq,s1,s2,s3,s4,s5,s6,s7,s8,z1,z2,z3,z4,z5,z6,z7,z8,lc,lq,c4,wi,at1,at2,rdc,rdd,y1,y2,y3,y4,hq,hq2,sh,sh2,sh3,wk,wg,wc,wn,bne_self_eq_false];exact W.done ⟨i+1,⟨kk+1,rfl,by omega,hS',.inr ⟨_,_,rfl⟩⟩,by omega⟩
   . have c4:decide ((i:Int)<x.p.changes.length)=false:=Zri (by omega);have hl' :=hSe.len;obtain⟨hn1,hn2⟩:=f.nums;rw[Zqe (by omega),Zqe (by omega)] at hSd;have hk:n=kk:=hSd;subst hk;have wu:(IntKind.u32).wrap (x.p.count+n)=x.p.count+n:=by
      simp only[IntKind.wrap,IntKind.bits,IntKind.signed,Zqy,Zn5,if_false];omega
     simp only[wX,↓Qc,simprocAttr,Zu10,Qcq,s1,s2,s3,s4,s5,s6,s7,s8,z1,z2,z3,z4,z5,z6,z7,z8,lc,lq,c4];refine W.done ?_;simp only[wX,↓Qc,simprocAttr,Zu10,Qcq,s1,s2,s3,s4,s5,s6,s7,s8,z1,z2,z3,z4,z5,z6,z7,z8,lc,lq,wu,beq_self_eq_true];exact W.done (Q0.ret rfl rfl rfl)
end
end Go.Proofs.YtjllfbejpjonnaaGreatDoor
namespace Go.Proofs.YtjllfbejpjonnaaGreatDoor
open Go.AM
theorem Z3{n:Nat}{t:TypeId}{k:IntKind}{xs:List V}(hu:(Tp).underlying t=some (.int k))(h:Jc Tp n t xs):∃m,xs=[.int k m]:=by
 cases n with
 |zero=>exact h.elim
 |succ n=>
  unfold Jc at h;rw[hu] at h;obtain⟨m,h1,_⟩:=h;exact⟨m,h1⟩
theorem Q21{n:Nat}{t:TypeId}{k:IntKind}{xs:List V}(hu:(Tp).underlying t=some (.int k))(h:Jc Tp n t xs):∃m,xs=[.int k m]/\k.min<=m/\m<=k.max:=by
 cases n with
 |zero=>exact h.elim
 |succ n=>
  unfold Jc at h;rw[hu] at h;obtain⟨m,h1,h2⟩:=h;simp only[Lit.wf,Zok,decide_eq_true_eq] at h2;exact⟨m,h1,h2⟩
theorem Qcz{n:Nat}{t:TypeId}{xs:List V}(hu:(Tp).underlying t=some (.int .u32))(h:Jc Tp n t xs):∃m,xs=[.int .u32 m]/\0<=m/\m<4294967296:=by obtain⟨m,h1,h2,h3⟩:=Q21 hu h;have e1:(IntKind.u32).min=0:=rfl;have e2:(IntKind.u32).max=4294967295:=rfl;exact⟨m,h1,by omega,by omega⟩
theorem Q5i{n:Nat}{t:TypeId}{xs:List V}(hu:(Tp).underlying t=some (.int .i64))(h:Jc Tp n t xs):∃m,xs=[.int .i64 m]/\ -9223372036854775808<=m/\m<=9223372036854775807:=by obtain⟨m,h1,h2,h3⟩:=Q21 hu h;have e1:(IntKind.i64).min= -9223372036854775808:=rfl;have e2:(IntKind.i64).max=9223372036854775807:=rfl;exact⟨m,h1,by omega,by omega⟩
theorem Qdc{n:Nat}{t e:TypeId}{xs:List V}(hu:(Tp).underlying t=some (.slice e))(h:Jc Tp n t xs):
 ∃v m ys,xs=[v]/\ys.length<=Y4/\(∀y∈ys,Jc Tp m e y)/\((v= .nS/\ys=[])\/v= .iS ys.flatten ys.length false):=by
 cases n with
 |zero=>exact h.elim
 |succ n=>
  unfold Jc at h;rw[hu] at h;rcases h with h|⟨ys,h,h1,h2⟩
  . exact⟨_,n,[],h,Zq1 _,(fun _ h=>by cases h),.inl ⟨rfl,rfl⟩⟩
  . exact⟨_,n,ys,h,h1,h2,.inr rfl⟩
theorem Qqf{esz:Nat}{v:V}{ys:List (List V)}(h:(v= .nS/\ys=[])\/v= .iS ys.flatten ys.length false)(hl:ys.flatten.length=ys.length*esz):Qw esz v ys.flatten ys.length:=by
 rcases h with⟨rfl,rfl⟩|rfl
 . exact Qw.nil
 . exact Qw.mk hl
theorem Qig{n:Nat}{xs:List V}(h:Jc Tp n 26 xs):∃v l,xs=[v]/\Qe v l/\l.length<=Y4:=by obtain⟨v,m,ys,rfl,h1,h2,h3⟩:=Qdc Zu0 h;obtain⟨l,h4,h5⟩:=Qiu (P:=Tp) Zu11 ys h2;refine⟨v,l,rfl,?_,by omega⟩;have:=Qqf (esz:=1) h3 (by rw[h4,Qy,h5];omega);rw[h4,<-h5] at this;exact this
theorem Qs9{n:Nat}:∀ys:List (List V),(∀y∈ys,Jc Tp n 3 y)->∃l:List Int,l.length=ys.length/\ys.flatten=Qz l
 |[],_=>⟨[],rfl,rfl⟩
 |y::ys,h=>by
  obtain⟨l,h1,h2⟩:=Qs9 ys fun z hz=>h z (Zpk _ hz);obtain⟨m,rfl⟩:=Z3 Zu3 (h y (by simp));exact⟨m::l,by simp[h1],by rw[List.flatten_cons,h2];rfl⟩
theorem Q2p{n:Nat}{xs:List V}(h:Jc Tp n 32 xs):∃v l,xs=[v]/\Xg v l/\l.length<=Y4:=by obtain⟨v,m,ys,rfl,h1,h2,h3⟩:=Qdc Zu4 h;obtain⟨l,h5,h4⟩:=Qs9 ys h2;refine⟨v,l,rfl,?_,by omega⟩;have:=Qqf (esz:=1) h3 (by rw[h4,Bb,h5];omega);rw[h4,<-h5] at this;exact this
theorem Qty{n:Nat}:∀ys:List (List V),(∀y∈ys,Jc Tp n 26 y)->∃l:List (List UInt8),l.length=ys.length/\Kw ys.flatten l/\∀k∈l,k.length<=Y4
 |[],_=>⟨[],rfl,rfl,fun _ h=>by cases h⟩
 |y::ys,h=>by
  obtain⟨l,h1,h2,h3⟩:=Qty ys fun z hz=>h z (Zpk _ hz);obtain⟨v,k,rfl,h4,h5⟩:=Qig (h y (by simp));exact⟨k::l,by simp[h1],⟨v,_,rfl,h4,h2⟩,Zq8.2 ⟨h5,h3⟩⟩
theorem Qj2{n:Nat}{xs:List V}(h:Jc Tp n 22 xs):∃v l,xs=[v]/\Z2 v l/\l.length<=Y4/\∀k∈l,k.length<=Y4:=by obtain⟨v,m,ys,rfl,h1,h2,h3⟩:=Qdc Zu1 h;obtain⟨l,h5,h4,h6⟩:=Qty ys h2;refine⟨v,l,rfl,⟨_,h4,?_⟩,by omega,h6⟩;have:=Qqf (esz:=1) h3 (by rw[h4.len,h5];omega);rw[<-h5] at this;exact this
theorem Qie{n:Nat}{xs:List V}(h:Jc Tp n 31 xs):∃p:Yb,xs=p.cells/\p.Rng:=by
 cases n with
 |zero=>exact h.elim
 |succ n=>
  unfold Jc at h;rw[Tryz.underlying31] at h;simp only[Xu,Zo4,Zpm] at h;obtain⟨x1,r1,a1,⟨x2,r2,a2,⟨x3,r3,a3,⟨x4,r4,a4,⟨x5,r5,a5,e6,rfl⟩,rfl⟩,rfl⟩,rfl⟩,rfl⟩:=h;obtain⟨m1,rfl⟩:=Z3 Zu3 a1;obtain⟨m2,rfl,u2⟩:=Qcz Zu7 a2;obtain⟨m3,rfl,u3⟩:=Qcz Zu7 a3;obtain⟨m4,rfl,u4⟩:=Qcz Zu7 a4;obtain⟨m5,rfl,u5⟩:=Qcz Zu7 a5;subst e6;exact⟨⟨m1,m2,m3,m4,m5⟩,rfl,u2,u3,u4,u5⟩
theorem Qs7{n:Nat}:∀ys:List (List V),(∀y∈ys,Jc Tp n 31 y)->∃l:List Yb,l.length=ys.length/\ys.flatten=Xi l
 |[],_=>⟨[],rfl,rfl⟩
 |y::ys,h=>by
  obtain⟨l,h1,h2⟩:=Qs7 ys fun z hz=>h z (Zpk _ hz);obtain⟨m,rfl,_⟩:=Qie (h y (by simp));exact⟨m::l,by simp[h1],by rw[List.flatten_cons,h2];rfl⟩
theorem Quv(l:List Yb):(Xi l).length=l.length*5:=by
 induction l with
 |nil=>rfl
 |cons a l ih=>
  have e:Xi (a::l)=a.cells++Xi l:=rfl;rw[e,Zom,ih,Zp9];have:a.cells.length=5:=rfl;omega
theorem Q1l{n:Nat}{xs:List V}(h:Jc Tp n 50 xs):∃v l,xs=[v]/\Qa5 v l/\l.length<=Y4:=by obtain⟨v,m,ys,rfl,h1,h2,h3⟩:=Qdc Zu8 h;obtain⟨l,h5,h4⟩:=Qs7 ys h2;refine⟨v,l,rfl,?_,by omega⟩;have:=Qqf (esz:=5) h3 (by rw[h4,Quv,h5]);rw[h4,<-h5] at this;exact this
theorem Q0e{n:Nat}{xs:List V}(h:Jc Tp n 101 xs):∃a v l,xs=[.int .i64 a,v]/\Qe v l/\l.length<=Y4/\ -9223372036854775808<=a/\a<=9223372036854775807:=by
 cases n with
 |zero=>exact h.elim
 |succ n=>
  unfold Jc at h;rw[Tryz.underlying101] at h;simp only[Xu,Zo4,Zpm] at h;obtain⟨x1,r1,a1,⟨x2,r2,a2,e3,rfl⟩,rfl⟩:=h;obtain⟨m1,rfl,u1⟩:=Q5i Zu3 a1;obtain⟨v,l,rfl,h1,h2⟩:=Qig a2;subst e3;exact⟨m1,v,l,rfl,h1,h2,u1⟩
theorem Qqq{n:Nat}:∀ys:List (List V),(∀y∈ys,Jc Tp n 101 y)->∃l:List (Int×List UInt8),l.length=ys.length/\Qcl ys.flatten l/\∀w∈l,w.2.length<=Y4/\ -9223372036854775808<=w.1/\w.1<=9223372036854775807
 |[],_=>⟨[],rfl,rfl,fun _ h=>by cases h⟩
 |y::ys,h=>by
  obtain⟨l,h1,h2,h3⟩:=Qqq ys fun z hz=>h z (Zpk _ hz);obtain⟨a,v,k,rfl,h4,h5⟩:=Q0e (h y (by simp));exact⟨(a,k)::l,by simp[h1],⟨v,_,rfl,h4,h2⟩,Zq8.2 ⟨h5,h3⟩⟩
theorem Qzv{n:Nat}{xs:List V}(h:Jc Tp n 23 xs):∃v l,xs=[v]/\Jh v l/\l.length<=Y4/\∀w∈l,w.2.length<=Y4/\ -9223372036854775808<=w.1/\w.1<=9223372036854775807:=by obtain⟨v,m,ys,rfl,h1,h2,h3⟩:=Qdc Zu5 h;obtain⟨l,h5,h4,h6⟩:=Qqq ys h2;refine⟨v,l,rfl,⟨_,h4,?_⟩,by omega,h6⟩;have:=Qqf (esz:=2) h3 (by rw[h4.len,h5]);rw[<-h5] at this;exact this
theorem Q2r{n:Nat}{xs:List V}(h:Jc Tp n 52 xs):∃l dv,xs=J3 l dv/\Qa5 dv l.dead/\l.dead.length<=Y4/\l.root.Rng:=by
 cases n with
 |zero=>exact h.elim
 |succ n=>
  unfold Jc at h;rw[Tryz.underlying52] at h;simp only[Xu,Zo4,Zpm] at h;obtain⟨x1,r1,a1,⟨x2,r2,a2,⟨x3,r3,a3,⟨x4,r4,a4,⟨x5,r5,a5,⟨x6,r6,a6,⟨x7,r7,a7,⟨x8,r8,a8,⟨x9,r9,a9,e10,rfl⟩,rfl⟩,rfl⟩,rfl⟩,rfl⟩,rfl⟩,rfl⟩,rfl⟩,rfl⟩:=h;obtain⟨m1,rfl⟩:=Z3 Zu3 a1;obtain⟨m2,rfl⟩:=Z3 Zu11 a2;obtain⟨m3,rfl⟩:=Z3 Zu3 a3;obtain⟨m4,rfl⟩:=Z3 Zu3 a4;obtain⟨m5,rfl⟩:=Z3 Zu7 a5;obtain⟨m6,rfl⟩:=Z3 Zu7 a6;obtain⟨m7,rfl⟩:=Z3 Zu3 a7;obtain⟨p,rfl,up⟩:=Qie a8;obtain⟨v,d,rfl,h1,h2⟩:=Q1l a9;subst e10;exact⟨⟨m1,m2,m3,m4,m5,m6,m7,p,d⟩,v,rfl,h1,h2,up⟩
theorem Qon{n:Nat}:∀ys:List (List V),(∀y∈ys,Jc Tp n 52 y)->∃l:List Zy,l.length=ys.length/\LinesC ys.flatten l/\∀x∈l,x.dead.length<=Y4/\x.root.Rng
 |[],_=>⟨[],rfl,rfl,fun _ h=>by cases h⟩
 |y::ys,h=>by
  obtain⟨l,h1,h2,h3⟩:=Qon ys fun z hz=>h z (Zpk _ hz);obtain⟨x,v,rfl,h4,h5⟩:=Q2r (h y (by simp));exact⟨x::l,by simp[h1],⟨v,_,rfl,h4,h2⟩,Zq8.2 ⟨h5,h3⟩⟩
theorem Qwp{n:Nat}{xs:List V}(h:Jc Tp n 33 xs):∃v l,xs=[v]/\Qid v l/\l.length<=Y4/\∀x∈l,x.dead.length<=Y4/\x.root.Rng:=by obtain⟨v,m,ys,rfl,h1,h2,h3⟩:=Qdc Zu6 h;obtain⟨l,h5,h4,h6⟩:=Qon ys h2;refine⟨v,l,rfl,⟨_,h4,?_⟩,by omega,h6⟩;have:=Qqf (esz:=13) h3 (by rw[h4.len,h5]);rw[<-h5] at this;exact this
theorem Qwn{n:Nat}{xs:List V}(h:Jc Tp n 43 xs):∃c dv k,xs=Ql c dv/\Qe dv k/\c.n=k.length/\k.length<=Y4/\c.laid.Rng:=by
 cases n with
 |zero=>exact h.elim
 |succ n=>
  unfold Jc at h;rw[Tryz.underlying43] at h;simp only[Xu,Zo4,Zpm] at h;obtain⟨x1,r1,a1,⟨x2,r2,a2,⟨x3,r3,a3,⟨x4,r4,a4,⟨x5,r5,a5,⟨x6,r6,a6,⟨x7,r7,a7,⟨x8,r8,a8,e9,rfl⟩,rfl⟩,rfl⟩,rfl⟩,rfl⟩,rfl⟩,rfl⟩,rfl⟩:=h;obtain⟨m1,rfl⟩:=Z3 Zu3 a1;obtain⟨m2,rfl⟩:=Z3 Zu3 a2;obtain⟨m3,rfl⟩:=Z3 Zu3 a3;obtain⟨m4,rfl⟩:=Z3 Zu11 a4;obtain⟨m5,rfl⟩:=Z3 Zu3 a5;obtain⟨m6,rfl⟩:=Z3 Zu3 a6;obtain⟨v,k,rfl,h1,h2⟩:=Qig a7;obtain⟨p,rfl,up⟩:=Qie a8;subst e9;exact⟨⟨m1,m2,m3,m4,m5,m6,k.length,p⟩,v,k,rfl,h1,rfl,h2,up⟩
theorem Qkv{n:Nat}:∀ys:List (List V),(∀y∈ys,Jc Tp n 43 y)->∃l ds,l.length=ys.length/\Qo ys.flatten l ds/\(∀k∈ds,k.length<=Y4)/\∀c∈l,c.laid.Rng
 |[],_=>⟨[],[],rfl,rfl,(fun _ h=>by cases h),fun _ h=>by cases h⟩
 |y::ys,h=>by
  obtain⟨l,ds,h1,h2,h3,g3⟩:=Qkv ys fun z hz=>h z (Zpk _ hz);obtain⟨c,v,k,rfl,h4,h5,h6,g6⟩:=Qwn (h y (by simp));exact⟨c::l,k::ds,by simp[h1],⟨v,_,rfl,h4,h5,h2⟩,Zq8.2 ⟨h6,h3⟩,Zq8.2 ⟨g6,g3⟩⟩
theorem Qru{n:Nat}{xs:List V}(h:Jc Tp n 34 xs):∃v cs l ds,xs=[v]/\Qo cs l ds/\Qw 12 v cs l.length/\l.length<=Y4/\(∀k∈ds,k.length<=Y4)/\∀c∈l,c.laid.Rng:=by obtain⟨v,m,ys,rfl,h1,h2,h3⟩:=Qdc Zu2 h;obtain⟨l,ds,h5,h4,h6⟩:=Qkv ys h2;refine⟨v,_,l,ds,rfl,h4,?_,by omega,h6⟩;have:=Qqf (esz:=12) h3 (by rw[h4.toC.len,h5]);rw[<-h5] at this;exact this
theorem Q1v{n:Nat}{xs:List V}(h:Jc Tp n 36 xs):∃bv wv sv mv lv kv ov cv x,xs=Qf bv wv sv mv lv kv ov cv x.p/\K5 bv wv sv mv lv kv ov cv x/\x.Fits:=by
 cases n with
 |zero=>exact h.elim
 |succ n=>
  unfold Jc at h;rw[Tryz.underlying36] at h;simp only[Xu,Zo4,Zpm] at h;obtain⟨x1,r1,a1,⟨x2,r2,a2,⟨x3,r3,a3,⟨x4,r4,a4,⟨x5,r5,a5,⟨x6,r6,a6,⟨x7,r7,a7,⟨x8,r8,a8,⟨x9,r9,a9,⟨x10,r10,a10,⟨x11,r11,a11,e12,rfl⟩,rfl⟩,rfl⟩,rfl⟩,rfl⟩,rfl⟩,rfl⟩,rfl⟩,rfl⟩,rfl⟩,rfl⟩:=h;obtain⟨gen,rfl,gn⟩:=Qcz Zu7 a2;obtain⟨root,rfl,rr⟩:=Qie a3;obtain⟨mv,own,rfl,o1,o2⟩:=Q2p a4;obtain⟨lv,lines,rfl,l1,l2,l3⟩:=Qwp a5;obtain⟨kv,keys,rfl,k1,k2,k3⟩:=Qj2 a6;obtain⟨ov,loaded,rfl,q1,q2,q3⟩:=Qj2 a7;obtain⟨cv,cs,changes,datas,rfl,c1,c2,c3,c4,c5⟩:=Qru a8;obtain⟨logged,rfl⟩:=Z3 Zu3 a9;obtain⟨nid,rfl⟩:=Z3 Zu3 a10;obtain⟨ng,rfl⟩:=Z3 Zu7 a11;subst e12;cases n with
  |zero=>exact a1.elim
  |succ n=>
   unfold Jc at a1;rw[Tryz.underlying29] at a1;simp only[Xu,Zo4,Zpm] at a1;obtain⟨y1,s1,b1,⟨y2,s2,b2,⟨y3,s3,b3,⟨y4,s4,b4,e5,rfl⟩,rfl⟩,rfl⟩,rfl⟩:=a1;obtain⟨sv,space,rfl,p1,p2⟩:=Qig b2;obtain⟨epoch,rfl⟩:=Z3 Zu7 b3;obtain⟨count,rfl,cn⟩:=Qcz Zu7 b4;subst e5;cases n with
   |zero=>exact b1.elim
   |succ n=>
    unfold Jc at b1;rw[Tryz.underlying25] at b1;simp only[Xu,Zo4,Zpm] at b1;obtain⟨z1,t1,d1,⟨z2,t2,d2,e3,rfl⟩,rfl⟩:=b1;obtain⟨bv,blocks,rfl,v1,v2,v3⟩:=Qj2 d1;obtain⟨wv,waits,rfl,w1,w2,w3⟩:=Qzv d2;subst e3;exact⟨bv,wv,sv,mv,lv,kv,ov,cv,⟨blocks,waits,space,⟨epoch,count,gen,root,own,lines,keys,loaded,changes,logged,nid,ng⟩,datas⟩,rfl,
     ⟨v1,w1,p1,o1,l1,k1,q1,⟨cs,c1,c2⟩⟩,⟨v2,w2,p2,o2,l2,k2,q2,c3,v3,fun w hw=>(w3 w hw).1,k3,q3,fun l hl=>(l3 l hl).1,c4,fun w hw=>(w3 w hw).2,rr,fun l hl=>(l3 l hl).2,c5,⟨cn,gn⟩⟩⟩
end Go.Proofs.YtjllfbejpjonnaaGreatDoor
namespace Go.Proofs.YtjllfbejpjonnaaGreatDoor
open Go.AM
theorem Q55:∀c:Code,BM.drawsC c=drawsC c:=by
 intro c
 induction c with
 |region id ops draw=>rfl
 |seq a b iha ihb=>simp only[BM.drawsC,drawsC,iha,ihb]
 |cond c a b iha ihb=>simp only[BM.drawsC,drawsC,iha,ihb]
 |rangeFunc g ps a b iha ihb=>simp only[BM.drawsC,drawsC,iha,ihb]
 |block i b ih=>simp only[BM.drawsC,drawsC,ih]
 |loop b ih=>simp only[BM.drawsC,drawsC,ih]
 |scope b ih=>simp only[BM.drawsC,drawsC,ih]
 |_=>rfl
theorem Zbd:∀c:Code,BM.flatC c=flatC c:=by
 intro c
 induction c with
 |seq a b iha ihb=>simp only[BM.flatC,flatC,iha,ihb]
 |cond c a b iha ihb=>simp only[BM.flatC,flatC,iha,ihb]
 |block i b ih=>simp only[BM.flatC,flatC,ih]
 |loop b ih=>simp only[BM.flatC,flatC,ih]
 |scope b ih=>simp only[BM.flatC,flatC,ih]
 |_=>rfl
end Go.Proofs.YtjllfbejpjonnaaGreatDoor
namespace Go.Proofs.YtjllfbejpjonnaaGreatDoor
open Go.AM Go.AM.BM
attribute [local irreducible] U W
theorem Qs5{v:V}(h:Q3b v=true):∃c f,v= .iS c 256 f/\Jv c:=by
 cases v with
 |iS c n f=>
  simp only[Q3b,Zok] at h;obtain⟨h1,h2,h3⟩:=h;cases Zqx h1
  replace h2:=Zqx h2
  refine⟨c,f,rfl,h2,?_⟩;rw[<-h3];congr 1
 |_=>cases h
theorem Qjo{bv:V}{rv:List V}(h:Qlb bv=some rv):∃fl,bv= .iS rv 256 fl/\rv.length=256/\(∀i,i<256->∃f,rv[i]?=some (.iS (Qry (rv.getD i .bad)) 256 f))/\∀i,i<256->Jv (Qry (rv.getD i .bad)):=by
 cases bv with
 |iS xs n f=>
  simp only[Qlb] at h;split at h
  case isFalse=>cases h
  rename_i hc;cases h;simp only[Zok,Zor] at hc;obtain⟨⟨h1,h2⟩,h3⟩:=hc;cases Zqx h1
  replace h2:=Zqx h2
  have key:∀i,i<256->∃c g,rv[i]?=some (.iS c 256 g)/\rv.getD i .bad= .iS c 256 g/\Jv c:=fun i hi=>by
   have hl:i<rv.length:=by omega
   obtain⟨c,g,e,hr⟩:=Qs5 (h3 rv[i] (Zp8 hl));have e1:rv[i]?=some (.iS c 256 g):=by rw[Zn1 hl,e]
   exact⟨c,g,e1,by simp[List.getD,e1],hr⟩
  refine⟨f,rfl,h2,fun i hi=>?_,fun i hi=>?_⟩
  . obtain⟨c,g,e1,e2,_⟩:=key i hi;exact⟨g,by rw[e1,e2];rfl⟩
  . obtain⟨c,g,_,e2,hr⟩:=key i hi;rw[e2];exact hr
 |_=>cases h
theorem Qo1:∀(cs:List V) (j:Nat),Qeg cs=true->2*j+1<cs.length->∃a c f,cs[2*j]?=some (.int .i64 a)/\0<=a/\a<256/\cs[2*j+1]?=some (.iS c 256 f)/\Jv c
 |[],j,_,h=>by simp at h
 |[x],j,_,h=>by simp at h
 |x::v::r,j,h,hl=>by
  unfold Qeg at h;split at h
  . rename_i e;cases e
  . rename_i a v' r' e;cases e;simp only[Zok,decide_eq_true_eq] at h;obtain⟨⟨⟨h1,h2⟩,h3⟩,h4⟩:=h;cases j with
    |zero=>
     obtain⟨c,f,rfl,hc⟩:=Qs5 h3;exact⟨a,c,f,rfl,h1,h2,rfl,hc⟩
    |succ j=>
     obtain⟨b,c,f,q1,q2,q3,q4,q5⟩:=Qo1 r j h4 (by simp only[Zp9] at hl;omega);exact⟨b,c,f,by rw[show 2*(j+1)=2*j+1+1 by omega];simpa using q1,q2,q3,by rw[show 2*(j+1)+1=2*j+1+1+1 by omega];simpa using q4,q5⟩
  . cases h
def waA(cs:List V)(j:Nat):Int:=match cs.getD (2*j) .bad with
 | .int _ a=>a
 |_=>0
def waD(cs:List V)(j:Nat):List V:=Qry (cs.getD (2*j+1) .bad)
theorem Qmm{wv:V}{cs:List V}{n:Nat}(h:Qjd wv=some (cs,n)):Qw 2 wv cs n/\n<=4096/\(∀j,j<n->cs[2*j]?=some (.int .i64 (waA cs j))/\∃fl,cs[2*j+1]?=some (.iS (waD cs j) 256 fl))/\(∀j,j<n->0<=waA cs j/\waA cs j<256)/\∀j,j<n->Jv (waD cs j):=by
 have key:∀cs n,Qeg cs=true->cs.length=n*2->(∀j,j<n->cs[2*j]?=some (.int .i64 (waA cs j))/\∃fl,cs[2*j+1]?=some (.iS (waD cs j) 256 fl))/\(∀j,j<n->0<=waA cs j/\waA cs j<256)/\∀j,j<n->Jv (waD cs j):=fun cs n h hl=>by
  have q:∀j,j<n->∃f,cs[2*j]?=some (.int .i64 (waA cs j))/\cs[2*j+1]?=some (.iS (waD cs j) 256 f)/\(0<=waA cs j/\waA cs j<256)/\Jv (waD cs j):=fun j hj=>by
   obtain⟨a,c,f,q1,q2,q3,q4,q5⟩:=Qo1 cs j h (by omega);have e1:waA cs j=a:=by simp[waA,List.getD,q1]
   have e2:waD cs j=c:=by simp[waD,List.getD,q4,Qry]
   rw[e1,e2];exact⟨f,q1,q4,⟨q2,q3⟩,q5⟩
  exact⟨fun j hj=>by obtain⟨f,q1,q2,_⟩:=q j hj;exact⟨q1,f,q2⟩,fun j hj=>by obtain⟨f,_,_,q,_⟩:=q j hj;exact q,fun j hj=>by obtain⟨f,_,_,_,q⟩:=q j hj;exact q⟩
 cases wv with
 |nS=>
  cases h;exact⟨Qw.nil,by omega,fun j hj=>by omega,fun j hj=>by omega,fun j hj=>by omega⟩
 |iS xs m f=>
  simp only[Qjd] at h;split at h
  case isFalse=>cases h
  rename_i hc;cases h;simp only[Zok] at hc;obtain⟨⟨h1,h2⟩,h3⟩:=hc
  replace h1:=Zqx h1
  replace h2:=Zqa h2
  exact⟨Qw.mk h1,h2,key _ _ h3 h1⟩
 |_=>cases h
theorem Qjc(x v:V):∀(l:List V) (i:Nat),l.length=2*i->Qfd (l++[x,v])=Qfd l++[x,BM.newRow false v]
 |[],_,_=>rfl
 |[y],i,h=>by simp at h;omega
 |y::z::l,i,h=>by
  show y::BM.newRow false z::Qfd (l++[x,v])=_;rw[Qjc x v l (i-1) (by simp only[Zp9] at h;omega)];rfl
theorem Qhm(cs:List V)(n:Nat)(hl:cs.length=n*2)(h:∀j,j<n->cs[2*j]?=some (.int .i64 (waA cs j))/\∃fl,cs[2*j+1]?=some (.iS (waD cs j) 256 fl)):∀i,i<=n->Qa7 (waA cs) (waD cs) i=Qfd (cs.take (2*i))
 |0,_=>rfl
 |i+1,hi=>by
  obtain⟨q1,f,q2⟩:=h i (by omega);obtain⟨l1,g1⟩:=Zoq.1 q1;obtain⟨l2,g2⟩:=Zoq.1 q2;have e:cs.take (2*(i+1))=cs.take (2*i)++[.int .i64 (waA cs i),.iS (waD cs i) 256 f]:=by rw[show 2*(i+1)=2*i+1+1 by omega,Zqm l2,Zqm l1,g1,g2,Zo6];rfl
  rw[e,Qjc _ _ _ i (by rw[Zo1];omega),<-Qhm cs n hl h i (by omega),Qb4];rfl
theorem Qq3(rv cs:List V)(n:Nat)(hr:rv.length=256)(hl:cs.length=n*2)(h:∀j,j<n->cs[2*j]?=some (.int .i64 (waA cs j))/\∃fl,cs[2*j+1]?=some (.iS (waD cs j) 256 fl)):
 Q0n (fun i=>Qry (rv.getD i .bad)) (waA cs) (waD cs) n=Qur rv cs n:=by
 have e1:((List.range 256).map fun j=>V.iS (Qry (rv.getD j .bad)) 256 true)=rv.map (BM.newRow true):=by
  apply Zpi;intro i;by_cases hi:i<256
  . rw[Zqv,Zqv,List.getElem?_range hi,Zn1 (by omega)];simp[BM.newRow,List.getD,Zn1 (show i<rv.length by omega)]
  . rw[Zn4 (by simp;omega),Zn4 (by simp;omega)]
 have e2:=Qhm cs n hl h n (Zn6 n);rw[Zpf (by omega)] at e2;simp only[Q0n,Qur,e1,e2]
theorem Za4(ys:List V)(v:V)(h:Q3d ys=some v):Fz Tp Qg 72 ys (· =v):=by
 unfold Q3d at h;split at h
 case h_2=>cases h
 rename_i bv wv;split at h
 case h_2=>cases h
 rename_i rv cs n hb hw;cases h;obtain⟨fl,rfl,h1,h2,h3⟩:=Qjo hb;obtain⟨w1,w2,w3,w4,w5⟩:=Qmm hw;have:=Q2z rv fl _ h1 h2 h3 wv cs n w1 w2 (waA cs) (waD cs) w3 w5;rw[Qq3 rv cs n h1 w1.1 w3] at this;exact this
theorem Zdb(ys:List V)(v:V)(h:kNew ys=some v):Fz Tp Qg 76 ys (· =v):=by
 unfold kNew at h;split at h
 case h_2=>cases h
 cases h;exact new_fz
end Go.Proofs.YtjllfbejpjonnaaGreatDoor
namespace Go.Proofs.YtjllfbejpjonnaaGreatDoor
open Go.AM Go.AM.BM
attribute [local irreducible] U W
theorem Q48:CW Tp Qg 74 [.agg [.nS,.nS]] [] fun x _=>x= .ret (.int .i64 8):=by
 refine Zu Tryz.func74 rfl ?_;have l1:∀g,Ku Tp g 22 .nS=some (.int .i64 0):=fun g=>Qw.nil (esz:=1)|>.len Zu1 g;have l2:∀g,Ku Tp g 23 .nS=some (.int .i64 0):=fun g=>Qw.nil (esz:=2)|>.len Zu5 g;simp only[wX,↓Qc,simprocAttr,Tryz.ntmps74,l1,l2];refine W.ul ?_;refine W.loopS (kt:=[1,3,19,20,21]) rfl (fun _:Nat=>Ql7 (.ptr 0 1 0) (.bool false) .nS (.int .i64 0) (.int .i64 0)) (fun _=>[[(1,.cells [.nS,.nS])]]) (fun _=>True) (fun i=>i) ?_ 0 trivial rfl rfl;rintro i hi;simp only[Ql7];simp only[wA,↓Qc,simprocAttr];refine W.done ?_;simp only[wX,↓Qc,simprocAttr,l1,l2];refine W.ul ?_;refine W.loop (fun(_:Nat) t H=>Jg [3,33,34,35] t 0=Qgq (.bool false) .nS (.int .i64 0) (.int .i64 0)/\H=[[(1,.cells [.nS,.nS])]]) (fun i=>i) ?_ 0 ⟨rfl,rfl⟩ rfl;rintro i t H ⟨ht,rfl⟩;have hd:([[(1,.cells [.nS,.nS])]]:Heap).modify 0 (Ju fun s=>[7].contains s)=[[(1,.cells [.nS,.nS])]]:=rfl;refine⟨_,_,Z7 (kt:=[3,33,34,35]) (ds:=[7]) rfl ?_ ?_,?_⟩
 . rw[ht];rfl
 . rw[hd];rfl
 rw[ht,hd];simp only[Qgq];simp only[wA,↓Qc,simprocAttr];refine W.done ?_;simp only[wA,↓Qc,simprocAttr];exact W.done (End.ret (v:= .int .i64 8) rfl rfl)
theorem Q4u(ys:List V)(v:V)(h:Qv9 ys=some v):FzN Tp Qg 74 ys v:=by
 unfold Qv9 at h;split at h
 case h_3=>cases h
 . cases h;obtain⟨r,H,e,rfl⟩:=Q48;exact⟨_,_,e,rfl⟩
 . rename_i bv wv _;split at h
   case h_2=>cases h
   rename_i rv cs hb hw;obtain⟨cs,n⟩:=cs;cases h;obtain⟨fl,rfl,h1,h2,h3⟩:=Qjo hb;obtain⟨w1,w2,w3,w4,w5⟩:=Qmm hw;obtain⟨r,H,e,rfl⟩:=Q8h rv fl _ h1 h2 wv cs n w1 w2 (waA cs) (waD cs) w3 w4;exact⟨_,_,e,rfl⟩
end Go.Proofs.YtjllfbejpjonnaaGreatDoor
namespace Go.Proofs.YtjllfbejpjonnaaGreatDoor
open Go.AM Go.AM.BM
attribute [local irreducible] U W
def Qr1(a:Nat->Int)(dv:Nat->V):Nat->List V->List V
 |0,rv=>rv
 |i+1,rv=>(Qr1 a dv i rv).set (a i).toNat (dv i)
theorem Qqa(a:Nat->Int)(dv:Nat->V):∀(n:Nat) (rv:List V),Qr1 a dv (n+1) rv=Qr1 (fun j=>a (j+1)) (fun j=>dv (j+1)) n (rv.set (a 0).toNat (dv 0))
 |0,rv=>rfl
 |n+1,rv=>by
  show(Qr1 a dv (n+1) rv).set _ _=_;rw[Qqa a dv n rv];rfl
theorem Qnb(a:Nat->Int)(dv:Nat->V):∀(n:Nat) (rv:List V),(Qr1 a dv n rv).length=rv.length
 |0,_=>rfl
 |n+1,rv=>by rw[Qr1,Zql,Qnb a dv n rv]
theorem Qxn(a:Nat->Int)(dv:Nat->V):∀(n:Nat) (rv:List V) (x:V),x∈Qr1 a dv n rv->x∈rv\/∃j,j<n/\x=dv j
 |0,_,x,h=> .inl h
 |n+1,rv,x,h=>by
  rcases Zq6 h with h|rfl
  . rcases Qxn a dv n rv x h with h|⟨j,hj,e⟩
    . exact .inl h
    . exact .inr ⟨j,by omega,e⟩
  . exact .inr ⟨n,by omega,rfl⟩
def waV(cs:List V)(j:Nat):V:=cs.getD (2*j+1) .bad
theorem Qf2:∀(n:Nat) (cs rv:List V),Qeg cs=true->cs.length=n*2->Qgj cs rv=Qr1 (waA cs) (waV cs) n rv
 |0,cs,rv,_,h=>by
  have:cs=[]:=List.length_eq_zero_iff.1 (by omega);subst this;rfl
 |n+1,[],rv,_,h=>by simp at h
 |n+1,[x],rv,_,h=>by simp at h;omega
 |n+1,x::v::r,rv,h,hl=>by
  unfold Qeg at h;split at h
  . rename_i e;cases e
  . rename_i a v' r' e;cases e;simp only[Zok] at h;have ih:=Qf2 n r (rv.set a.toNat v) h.2 (by simp only[Zp9] at hl;omega);show Qgj r (rv.set a.toNat v)=_;rw[ih,Qqa];have e1:(fun j=>waA (.int .i64 a::v::r) (j+1))=waA r:=by
     funext j;simp only[waA];rw[show 2*(j+1)=2*j+1+1 by omega,List.getD_cons_succ,List.getD_cons_succ]
    have e2:(fun j=>waV (.int .i64 a::v::r) (j+1))=waV r:=by funext j;simp only[waV];rw[show 2*(j+1)+1=2*j+1+1+1 by omega,List.getD_cons_succ,List.getD_cons_succ]
    rw[e1,e2];rfl
  . cases h
theorem Qt7:∀(L:List (Int×V)) (k:Int) (v:V),(k,v)∈Qbi L k v
 |[],k,v=>by simp[Qbi]
 |(k',v')::r,k,v=>by
  simp only[Qbi];split
  . simp
  . exact Zpk _ (Qt7 r k v)
theorem Qtf:∀(L:List (Int×V)) (k:Int) (v:V) (x:Int×V),x.1≠k->x∈L->x∈Qbi L k v
 |(k',v')::r,k,v,x,hx,h=>by
  simp only[Qbi];rcases Zph.1 h with rfl|h
  . rw[if_neg (fun e=>hx e.symm)];simp
  . split
    . exact Zpk _ h
    . exact Zpk _ (Qtf r k v x hx h)
def Qhr(L:List (Int×V))(rv:List V):List V:=Jk L (List.range L.length) rv
theorem Qjr{L:List (Int×V)}(hn:(L.map Prod.fst).Nodup)(h0:∀x∈L,0<=x.1){x:Int×V}(hx:x∈L){rv:List V}(hl:x.1.toNat<rv.length):(Qhr L rv)[x.1.toNat]?=some x.2:=by obtain⟨b,hb⟩:=Zos.1 hx;exact Qfu L (fun b c k v w h1 h2=>Qrn hn b c k v w h1 h2) (fun b k v h=>h0 _ (Zqq h)) (k:=x.1) (v:=x.2) hb _ rv (Zpz.2 (Zoq.1 hb).1) hl
theorem Qmv{L:List (Int×V)}{i:Nat}(h:∀x∈L,x.1.toNat≠i)(rv:List V):(Qhr L rv)[i]?=rv[i]?:=
 Qcd L i _ rv fun b _ k v hb=>h _ (Zqq hb)
theorem Q1k{L:List (Int×V)}(hn:(L.map Prod.fst).Nodup)(h0:∀x∈L,0<=x.1/\x.1<256)(k:Int)(v:V)(k0:0<=k)(k1:k<256)(rv:List V)(hl:rv.length=256):Qhr (Qbi L k v) rv=(Qhr L rv).set k.toNat v:=by
 have hn2:=Qjx L k v hn;have h2:∀x∈Qbi L k v,0<=x.1:=fun x hx=>by
  rcases Qg3 _ _ _ _ hx with rfl|hx
  . exact k0
  . exact(h0 x hx).1
 have la:(Qhr L rv).length=256:=by rw[Qhr,B7,hl]
 apply Zpi;intro i;by_cases hi:i=k.toNat
 . subst hi;have:=Qjr hn2 h2 (Qt7 L k v) (rv:=rv) (by show k.toNat<_;omega);rw[Zqd,if_pos rfl,if_pos (by omega)];exact this
 . rw[Zqd,if_neg (fun e=>hi e.symm)];by_cases hx:∃x∈L,x.1.toNat=i
   . obtain⟨x,hx,rfl⟩:=hx;have hk:x.1≠k:=fun e=>hi (by rw[e]);have b:=h0 x hx;rw[Qjr hn2 h2 (Qtf L k v x hk hx) (by omega),Qjr hn (fun x hx=>(h0 x hx).1) hx (by omega)]
   . have hm:∀x∈L,x.1.toNat≠i:=fun x hx' e=>hx ⟨x,hx',e⟩;rw[Qmv hm,Qmv];intro x hx';rcases Qg3 _ _ _ _ hx' with rfl|h
     . exact fun e=>hi e.symm
     . exact hm x h
theorem Qta(a:Nat->Int)(dv:Nat->V)(rv:List V)(hl:rv.length=256)(n:Nat)(ha:∀j,j<n->0<=a j/\a j<256):∀i,i<=n->Qr1 a dv i rv=Qhr (Xk a dv i) rv
 |0,_=>rfl
 |i+1,hi=>by
  have q:=ha i (by omega);show(Qr1 a dv i rv).set _ _=Qhr (Qbi (Xk a dv i) (a i) (dv i)) rv;rw[Q1k (Qgt a dv i) (fun x hx=>?_) (a i) (dv i) q.1 q.2 rv hl,Qta a dv rv hl n ha i (by omega)];obtain⟨j,hj,e⟩:=Qj4 a dv i x hx;rw[e];exact ha j (by omega)
theorem Zd2(l:List V)(h:∀x∈l,∃c f,x= .iS c 256 f/\Jv c)(hl:l.length=256):
 (∀i,i<256->∃f,l[i]?=some (.iS (Qry (l.getD i .bad)) 256 f))/\∀i,i<256->Jv (Qry (l.getD i .bad)):=by
 have key:∀i,i<256->∃c g,l[i]?=some (.iS c 256 g)/\l.getD i .bad= .iS c 256 g/\Jv c:=fun i hi=>by
  have hl:i<l.length:=by omega
  obtain⟨c,g,e,hr⟩:=h l[i] (Zp8 hl);have e1:l[i]?=some (.iS c 256 g):=by rw[Zn1 hl,e]
  exact⟨c,g,e1,by simp[List.getD,e1],hr⟩
 refine⟨fun i hi=>?_,fun i hi=>?_⟩
 . obtain⟨c,g,e1,e2,_⟩:=key i hi;exact⟨g,by rw[e1,e2];rfl⟩
 . obtain⟨c,g,_,e2,hr⟩:=key i hi;rw[e2];exact hr
theorem Q2f{wv:V}{cs:List V}{n:Nat}(h:Qjd wv=some (cs,n)):Qeg cs=true:=by
 cases wv with
 |nS=>cases h;rfl
 |iS xs m f=>
  simp only[Qjd] at h;split at h
  case isFalse=>cases h
  rename_i hc;cases h;simp only[Zok] at hc;exact hc.2
 |_=>cases h
theorem Za5(ys:List V)(v:V)(h:Q3w 34 ys=some v):Fz Tp Qg 33 ys (· =v):=by
 unfold Q3w at h;split at h
 case h_2=>cases h
 rename_i bv wv sv;split at h
 case isFalse=>cases h
 rename_i hfn;split at h
 case h_2=>cases h
 rename_i rv cs n hb hw;split at h
 case isFalse=>cases h
 rename_i hc;cases h;have hsr:∀p,sv.refs p=false:=fun p=>by
  unfold isFn at hfn;split at hfn
  . rfl
  . rfl
  . rfl
  . cases hfn
 have hso:sv= .func (.func 34) [] []\/n=0:=by
  rcases Bool.or_eq_true_iff.1 hc with h|h
  . left;unfold isAll at h;split at h
    . cases Zqx h;rfl
    . cases h
  . exact .inr (Zqx h)
 obtain⟨fl,rfl,h1,h2,h3⟩:=Qjo hb;obtain⟨w1,w2,w3,w4,w5⟩:=Qmm hw;have wok:=Q2f hw;have wv3:∀j,j<n->∃c f,waV cs j= .iS c 256 f/\Jv c/\cs[2*j+1]?=some (waV cs j):=fun j hj=>by
  obtain⟨_,f,e⟩:=w3 j hj;have e2:waV cs j= .iS (waD cs j) 256 f:=by simp[waV,List.getD,e]
  exact⟨_,f,e2,w5 j hj,by rw[e2];exact e⟩
 have eA:Qgj cs rv=Jk (Xk (waA cs) (waV cs) n) (List.range (Xk (waA cs) (waV cs) n).length) rv:=by rw[Qf2 n cs rv wok w1.1,Qta (waA cs) (waV cs) rv h1 n w4 n (Zn6 n)];rfl
 have hl2:(Qgj cs rv).length=256:=by rw[Qf2 n cs rv wok w1.1,Qnb,h1]
 have hm:∀x∈Qgj cs rv,∃c f,x= .iS c 256 f/\Jv c:=fun x hx=>by
  rw[Qf2 n cs rv wok w1.1] at hx;rcases Qxn _ _ n rv x hx with hx|⟨j,hj,rfl⟩
  . obtain⟨i,hi⟩:=Zos.1 hx;have hi2:i<256:=by rw[<-h1];exact(Zoq.1 hi).1
    obtain⟨f,e⟩:=h2 i hi2;have:=h3 i hi2;rw[hi] at e;cases e;exact⟨_,f,rfl,this⟩
  . obtain⟨c,f,e,hc,_⟩:=wv3 j hj;exact⟨c,f,e,hc⟩
 obtain⟨r1,r2⟩:=Zd2 _ hm hl2;have e3:=Qq3 (Qgj cs rv) [] 0 hl2 rfl (fun j hj=>by omega);rw[<-e3];exact Q37 rv fl _ h1 h2 h3 wv cs n w1 w2 (waA cs) (waV cs) (fun j hj=>⟨(w3 j hj).1,by obtain⟨_,_,_,_,e⟩:=wv3 j hj;exact e⟩) w4 (fun j hj=>by obtain⟨c,f,e,hc,_⟩:=wv3 j hj;exact⟨c,f,e,hc⟩) (fun i=>Qry ((Qgj cs rv).getD i .bad)) (fun i hi=>by rw[<-eA];exact r1 i hi) r2 sv hso hsr
end Go.Proofs.YtjllfbejpjonnaaGreatDoor
namespace Go.Proofs.YtjllfbejpjonnaaGreatDoor
open Go.AM Go.AM.BM
def Qyz(K:FuncId->Option Qc4):BM.Pol where
 prim:=fun f=>match f with
  |72=>some (Qpm Q3d)
  |33=>some (Qpm (Q3w 34))
  |74=>some (Qfa Qv9)
  |76=>some (Qpm kNew)
  |159=>some (Qfa kMax)
  |69=>some (Qfa kSum)
  |246=>some (Qfa kKey)
  |172=>some Qdj
  |216=>some K8
  |257=>some Kt
  |_=>none
 fix:=fun f=>f==137
 fixA:=fun f=>match f with
  |65=>some 2
  |30=>some 2
  |_=>none
 prims:=fun f=>match K f with
  |some g=>some g
  |none=>(match f with
   |_=>none)
theorem xMake:Bo Tp 172 (Extern.BytealgMakeNoZero.makeNoZero Tryz.f172.params Tryz.f172.resultTypes):=⟨Tryz.f172,Tryz.func172,by kernel_rfl,by kernel_rfl,by kernel_rfl,by kernel_rfl⟩
theorem xCount:Bo Tp 216 Extern.BytealgCount.count:=⟨Tryz.f216,Tryz.func216,by kernel_rfl,by kernel_rfl,by kernel_rfl,by kernel_rfl⟩
theorem xIndex:Bo Tp 257 Extern.BytealgIndexByte.indexByte:=⟨Tryz.f257,Tryz.func257,by kernel_rfl,by kernel_rfl,by kernel_rfl,by kernel_rfl⟩
theorem Qqt{K:FuncId->Option Qc4}{f:FuncId}{g:BM.Prim}(h:(Qyz K).prim f=some g):
 (f=72/\g=Qpm Q3d)\/(f=33/\g=Qpm (Q3w 34))\/(f=74/\g=Qfa Qv9)\/(f=76/\g=Qpm kNew)\/(f=159/\g=Qfa kMax)\/(f=69/\g=Qfa kSum)\/(f=246/\g=Qfa kKey)\/(f=172/\g=Qdj)\/(f=216/\g=K8)\/(f=257/\g=Kt):=by
 simp only[Qyz] at h;split at h<;>cases h<;>simp
theorem Qpg{K:FuncId->Option Qc4}(hK:∀f g,K f=some g->Qjf Tp f g){f:FuncId}{g:Qc4}(h:(Qyz K).prims f=some g):Qjf Tp f g:=by
 simp only[Qyz] at h;split at h
 . cases h;exact hK _ _ (by assumption)
 . cases h
theorem okC{K:FuncId->Option Qc4}(hK:∀f g,K f=some g->Qjf Tp f g):BM.Okay Tp (Qyz K) where
 mixed:=Tryz.checked.mixed
 draws:=fun f F c hF hc=>by rw[Q55];exact okD.draws f F c hF hc
 loops:=fun f F c hF hc=>by rw[Zbd];exact okD.loops f F c hF hc
 num:=okD.num
 prim:=fun f g hg B F H E fr dst args cargs v x S one h0 htab hr h=>by
  rcases Qqt hg with⟨rfl,rfl⟩|⟨rfl,rfl⟩|⟨rfl,rfl⟩|⟨rfl,rfl⟩|⟨rfl,rfl⟩|⟨rfl,rfl⟩|⟨rfl,rfl⟩|⟨rfl,rfl⟩|⟨rfl,rfl⟩|⟨rfl,rfl⟩
  . exact Qjz okD Za4 B F H E fr dst args cargs v x S one h0 htab hr h
  . exact Qjz okD Za5 B F H E fr dst args cargs v x S one h0 htab hr h
  . exact Qej okD Q4u B F H E fr dst args cargs v x S one h0 htab hr h
  . exact Qjz okD Zdb B F H E fr dst args cargs v x S one h0 htab hr h
  . exact Qej okD Zew B F H E fr dst args cargs v x S one h0 htab hr h
  . exact Qej okD Ze0 B F H E fr dst args cargs v x S one h0 htab hr h
  . exact Qej okD Zcu B F H E fr dst args cargs v x S one h0 htab hr h
  . exact Qkb one (AM.sound_make xMake (e:=5) (by kernel_rfl) S (by omega) hr h)
  . exact Qkb one (AM.sound_count xCount S hr h)
  . exact Qkb one (AM.sound_indexByte xIndex S hr h)
 loop:=fun f F c _ _=>Qwv (fun _=>rfl) c
 tame:={
  prim:=fun f g hg nm G G' args v w hle hn h=>by
   rcases Qqt hg with⟨rfl,rfl⟩|⟨rfl,rfl⟩|⟨rfl,rfl⟩|⟨rfl,rfl⟩|⟨rfl,rfl⟩|⟨rfl,rfl⟩|⟨rfl,rfl⟩|⟨rfl,rfl⟩|⟨rfl,rfl⟩|⟨rfl,rfl⟩
   . exact Qmu _ nm G G' args v w hle h
   . exact Qmu _ nm G G' args v w hle h
   . exact Qfo _ nm G G' args v w hle h
   . exact Qmu _ nm G G' args v w hle h
   . exact Qfo _ nm G G' args v w hle h
   . exact Qfo _ nm G G' args v w hle h
   . exact Qfo _ nm G G' args v w hle h
   . exact Qso nm G G' args v w hle hn h
   . exact Qp8 nm G G' args v w hle h
   . exact Qjt nm G G' args v w hle h
  loop:=fun fn r g hg=>by cases hg
  prims:=fun f g hg=>(Qpg hK hg).tame}
 prims:=fun f g hg=>(Qpg hK hg).sound
theorem nlC(K:FuncId->Option Qc4):Qd0 (Qyz K):=fun _ _=>rfl
end Go.Proofs.YtjllfbejpjonnaaGreatDoor
end
end
