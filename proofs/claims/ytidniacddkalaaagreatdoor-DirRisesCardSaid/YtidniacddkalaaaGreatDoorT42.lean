/- This file holds in one the texts F31, F32, F33, F2, D01; each says at its head what it proves. -/
import Derived.Test.YtidniacddkalaaaGreatDoorT16
import Derived.Test.YtidniacddkalaaaGreatDoorT21
import Derived.Test.YtidniacddkalaaaGreatDoorT25
import Derived.Test.YtidniacddkalaaaGreatDoorT27
import Derived.Test.YtidniacddkalaaaGreatDoorT29
import Derived.Test.YtidniacddkalaaaGreatDoorT30
import Derived.Test.YtidniacddkalaaaGreatDoorT36
import Derived.Test.YtidniacddkalaaaGreatDoorT41
set_option linter.unusedSimpArgs false
set_option linter.unusedVariables false
section
set_option maxRecDepth 100000
namespace Go.Proofs.YtidniacddkalaaaGreatDoor
open Go.AM
attribute [local irreducible] U W
set_option maxHeartbeats 4000000 in
theorem Q5s(bv wv:V)(bl:List (List UInt8))(wl:List (Int×List UInt8))(hb:Kt bv bl)(hw:Qa9 wv wl)(b1:bl.length<=K6)(w1:wl.length<=K6):Fz Tryz.prog Qg 25 [.agg [bv,wv]] fun x=>∃b,x= .bool b:=by
 refine Qw Tryz.func25 rfl ?_;have b1' :bl.length<=9223372036854775807:=b1;have w1' :wl.length<=9223372036854775807:=w1;obtain⟨bcs,hbc,hbv⟩:=hb;obtain⟨wcs,hwc,hwv⟩:=hw;have lb:=hbv.len Tryz.underlying22;have lw:=hwv.len Tryz.underlying23;have bsc:bv.scalar=true:=Ze hbv;have wsc:wv.scalar=true:=Ze hwv;simp only[wA,↓Qc,simprocAttr,Tryz.ntmps25,ta,wH,wB,wsc,bsc,lw,lb]
 repeat' ((first|refine W.guardF ?_ ?_|refine W.guardT ?_ ?_|refine W.guardXF ?_ ?_|refine W.guardXT ?_ ?_|refine W.ite ?_ ?_|refine W.opsK1 (by kernel_rfl) ?_)<;>intro h<;>simp only[wA,↓Qc,simprocAttr,h,ta,wH,wB,wsc,bsc,lw,lb])
 all_goals first
  |exact W.done (Qk.ret rfl rfl ⟨_,rfl⟩)
  |skip
 all_goals
  refine W.ul ?_;refine W.loop (fun(i:Nat) t H=>∃n:Int,Yf [1,3,4] t 0=Zat (.ptr 0 1 0) (.int .i64 n) (.int .i64 i)/\i<=bl.length/\H=[[(1,.cells [bv,wv])]]) (fun i=>bl.length-i) ?_ 0 ⟨0,rfl,Zt2 _,rfl⟩;rintro i t H ⟨n,ht,hi,rfl⟩;refine⟨_,_,Ji (kt:=[1,3,4]) rfl rfl,?_⟩;rw[ht];simp only[Zat];by_cases h:i<bl.length
  case pos=>
   have c1:decide ((i:Int)<bl.length)=true:=Zum (by omega);have wi:(IntKind.i64).wrap ((i:Int)+1)=((i+1:Nat):Int):=by rw[wrap_i64]<;>omega
   obtain⟨v,h1,hv⟩:=hbc.at_ h;have g1:bcs[(i:Int).toNat*1]?=some v:=by simpa using h1
   have g2:bcs[(i:Int).toNat]?=some v:=by simpa using h1
   have lv:=hv.len Tryz.underlying26;have at1:=hbv.at (k:= .i64) Tryz.underlying22 Qew (by decide) (i:=(i:Int)) (by omega) (by omega);cases c2:decide (n<2000000)
   case true=>simp only[wA,↓Qc,simprocAttr,c1,c2,at1,g1,g2,lv,wi,lb,bsc,wsc,ta,wH,wB];exact W.done ⟨i+1,⟨_,rfl,by omega,rfl⟩,by omega⟩
   simp only[wA,↓Qc,simprocAttr,c1,c2,lb,bsc,wsc,ta,wH,wB];refine W.done ?_;simp only[wA,↓Qc,simprocAttr,lw,lb,bsc,wsc,ta,wH,wB];refine W.ul ?_;refine W.loop (fun(j:Nat) t H=>∃n:Int,Yf [1,3,5] t 0=Qvd (.ptr 0 1 0) (.int .i64 n) (.int .i64 j)/\j<=wl.length/\H=[[(1,.cells [bv,wv])]]) (fun j=>wl.length-j) ?_ 0 ⟨_,rfl,Zt2 _,rfl⟩;rintro j t2 H2 ⟨n2,ht2,hj,rfl⟩;refine⟨_,_,Ji (kt:=[1,3,5]) rfl rfl,?_⟩;rw[ht2];simp only[Qvd];rcases Classical.em (j<wl.length) with h2|h2
   . have d1:decide ((j:Int)<wl.length)=true:=Zum (by omega);have wj:(IntKind.i64).wrap ((j:Int)+1)=((j+1:Nat):Int):=by rw[wrap_i64]<;>omega
     obtain⟨_,v2,e2,hv2⟩:=hwc.at_ h2;have g3:wcs[(j:Int).toNat*2+1]?=some v2:=by rw[show(j:Int).toNat*2+1=2*j+1 by omega];exact e2
     have lv2:=hv2.len Tryz.underlying26;have at2:=hwv.at (k:= .i64) Tryz.underlying23 Qjg (by decide) (i:=(j:Int)) (by omega) (by omega);cases d2:decide (n2<2000000)
     . simp only[wA,↓Qc,simprocAttr,d1,d2,lw,bsc,wsc,ta,wH,wB];refine W.done ?_;simp only[wA,↓Qc,simprocAttr,ta,wH,wB];exact W.done (Qk.ret rfl rfl ⟨_,rfl⟩)
     . simp only[wA,↓Qc,simprocAttr,d1,d2,at2,g3,lv2,wj,lw,bsc,wsc,ta,wH,wB];exact W.done ⟨j+1,⟨_,rfl,by omega,rfl⟩,by omega⟩
   . have d1:decide ((j:Int)<wl.length)=false:=Zun (by omega);simp only[wA,↓Qc,simprocAttr,d1,lw,bsc,wsc,ta,wH,wB];refine W.done ?_;simp only[wA,↓Qc,simprocAttr,ta,wH,wB];exact W.done (Qk.ret rfl rfl ⟨_,rfl⟩)
  case neg=>
   have c1:decide ((i:Int)<bl.length)=false:=Zun (by omega);simp only[wA,↓Qc,simprocAttr,c1,lb,bsc,wsc,ta,wH,wB];refine W.done ?_;simp only[wA,↓Qc,simprocAttr,lw,lb,bsc,wsc,ta,wH,wB];refine W.ul ?_;refine W.loop (fun(j:Nat) t H=>∃n:Int,Yf [1,3,5] t 0=Qvd (.ptr 0 1 0) (.int .i64 n) (.int .i64 j)/\j<=wl.length/\H=[[(1,.cells [bv,wv])]]) (fun j=>wl.length-j) ?_ 0 ⟨_,rfl,Zt2 _,rfl⟩;rintro j t2 H2 ⟨n2,ht2,hj,rfl⟩;refine⟨_,_,Ji (kt:=[1,3,5]) rfl rfl,?_⟩;rw[ht2];simp only[Qvd];rcases Classical.em (j<wl.length) with h2|h2
   . have d1:decide ((j:Int)<wl.length)=true:=Zum (by omega);have wj:(IntKind.i64).wrap ((j:Int)+1)=((j+1:Nat):Int):=by rw[wrap_i64]<;>omega
     obtain⟨_,v2,e2,hv2⟩:=hwc.at_ h2;have g3:wcs[(j:Int).toNat*2+1]?=some v2:=by rw[show(j:Int).toNat*2+1=2*j+1 by omega];exact e2
     have lv2:=hv2.len Tryz.underlying26;have at2:=hwv.at (k:= .i64) Tryz.underlying23 Qjg (by decide) (i:=(j:Int)) (by omega) (by omega);cases d2:decide (n2<2000000)
     . simp only[wA,↓Qc,simprocAttr,d1,d2,lw,bsc,wsc,ta,wH,wB];refine W.done ?_;simp only[wA,↓Qc,simprocAttr,ta,wH,wB];exact W.done (Qk.ret rfl rfl ⟨_,rfl⟩)
     . simp only[wA,↓Qc,simprocAttr,d1,d2,at2,g3,lv2,wj,lw,bsc,wsc,ta,wH,wB];exact W.done ⟨j+1,⟨_,rfl,by omega,rfl⟩,by omega⟩
   . have d1:decide ((j:Int)<wl.length)=false:=Zun (by omega);simp only[wA,↓Qc,simprocAttr,d1,lw,bsc,wsc,ta,wH,wB];refine W.done ?_;simp only[wA,↓Qc,simprocAttr,ta,wH,wB];exact W.done (Qk.ret rfl rfl ⟨_,rfl⟩)
theorem Q0n{bv wv sv:V}{bl wl sp}(h:Qco bv wv sv bl wl sp)(e c:Int):Fz Tryz.prog Qg 12 [Qdb bv wv sv e c] fun x=>∃b,x= .bool b:=by
 refine Qw Tryz.func12 rfl ?_;obtain⟨m,⟨g,rfl⟩,hm⟩:=(Q5s bv wv bl wl h.blocks h.waits h.b1 h.w1).op (by rfl) (Qa (Qdp h.blocks h.waits _) rfl);have hm1:∀s H,_:=fun s H=>hm 12 0 s H rfl;obtain⟨_,_,h1⟩:=id h.blocks;obtain⟨_,_,h2⟩:=id h.waits;have sb:=Ze h1;have sw:=Ze h2;have ss:=Ze h.space;have ls:=h.space.len Tryz.underlying26;cases g
 all_goals
  simp only[wA,↓Qc,simprocAttr,Tryz.ntmps12,ta,wH,wB,sb,sw,ss,ls,hm1]
  repeat' ((first|refine W.guardF ?_ ?_|refine W.guardT ?_ ?_|refine W.guardXF ?_ ?_|refine W.guardXT ?_ ?_|refine W.ite ?_ ?_|refine W.opsK1 (by kernel_rfl) ?_)<;>intro h<;>simp only[wA,↓Qc,simprocAttr,h,ta,wH,wB,sb,sw,ss,ls,hm1])
  all_goals exact W.done (Qk.ret rfl rfl ⟨_,rfl⟩)
section
variable {bv wv sv mv lv kv ov cv : V} {x : B6}
set_option maxHeartbeats 8000000 in
theorem Q2c(h:Jx bv wv sv mv lv kv ov cv x)(f:x.Fits):Fz Tryz.prog Qg 5 [.agg (Zd bv wv sv mv lv kv ov cv x.p)] fun r=>∃b,r= .bool b:=by
 refine Qw Tryz.func5 rfl ?_;obtain⟨m,⟨g,rfl⟩,hm⟩:=(Q0n (Qn4 h f) x.p.epoch x.p.count).op (by rfl) (Qa (Qas (Qn4 h f) _ _ _) rfl);have hm1:∀s H,_:=fun s H=>hm 5 0 s H rfl;obtain⟨s1,s2,s3,s4,s5,s6,s7,s8⟩:=Bf h;obtain⟨lcs,hlcs,hlv⟩:=id h.lines;obtain⟨kcs,hkcs,hkv⟩:=id h.keys;obtain⟨ocs,hocs,hov⟩:=id h.loaded;obtain⟨ccs,hccs,hcv⟩:=id h.changes;have f1:x.p.lines.length<=9223372036854775807:=f.lines;have f2:x.p.changes.length<=9223372036854775807:=f.changes;have f3:x.p.keys.length<=9223372036854775807:=f.keys;have f4:x.p.loaded.length<=9223372036854775807:=f.loaded;have lm:=h.own.len Tryz.underlying32;have ll:=hlv.len Tryz.underlying33;have lk:=hkv.len Tryz.underlying22;have lo:=hov.len Tryz.underlying22;have lc:=hcv.len Tryz.underlying34;have bm:∀mt fr g d ts a b,builtinV Tryz.prog mt fr g d .min ts [.int .i64 a,.int .i64 b]=some (.val (.int .i64 (if b<a then b else a)) none):=fun _ _ _ _ _ _ _=>rfl;have q256:∀u v a,Zp Tryz.prog .quo 3 u v (.int .i64 a) (.int .i64 256)=some (.int .i64 ((IntKind.i64).wrap (a.tdiv 256))):=fun _ _ _=>rfl;have q24:∀u v a,Zp Tryz.prog .quo 3 u v (.int .i64 a) (.int .i64 24)=some (.int .i64 ((IntKind.i64).wrap (a.tdiv 24))):=fun _ _ _=>rfl;have q16:∀u v a,Zp Tryz.prog .quo 3 u v (.int .i64 a) (.int .i64 16)=some (.int .i64 ((IntKind.i64).wrap (a.tdiv 16))):=fun _ _ _=>rfl;have chd:∀i:Nat,i<x.p.changes.length->∃(dv:V) (k:Nat),ccs[(i:Int).toNat*12+6]?=some dv/\∀g,Y4 Tryz.prog g 26 dv=some (.int .i64 k):=by intro i hi;obtain⟨dv,k,h1,h2,_⟩:=hccs.at_ hi;refine⟨dv,k.length,?_,fun g=>h2.len Tryz.underlying26 g⟩;have:=congrArg (fun l=>l[6]?) h1;simp only[Zrn,Zta,Za] at this;rw[show(i:Int).toNat*12+6=i*12+6 by omega];simpa using this
 simp only[Zd,Qdb] at hm1⊢;cases g
 all_goals
  simp only[wA,↓Qc,simprocAttr,Tryz.ntmps5,ta,wH,wB,hm1,s1,s2,s3,s4,s5,s6,s7,s8,lm,ll,lk,lo,lc]
  repeat' ((first|refine W.guardF ?_ ?_|refine W.guardT ?_ ?_|refine W.guardXF ?_ ?_|refine W.guardXT ?_ ?_|refine W.ite ?_ ?_|refine W.opsK1 (by kernel_rfl) ?_)<;>intro h<;>simp only[wA,↓Qc,simprocAttr,h,ta,wH,wB,hm1,s1,s2,s3,s4,s5,s6,s7,s8,lm,ll,lk,lo,lc])
 all_goals first
  |exact W.done (Qk.ret rfl rfl ⟨_,rfl⟩)
  |skip
 all_goals
  refine W.ul ?_;refine W.loop (fun(i:Nat) t H=>∃n:Int,Yf [1,3,4] t 0=st5_5 (.ptr 0 1 0) (.int .i64 n) (.int .i64 i)/\i<=x.p.lines.length/\H=[[(1,.cells (Zd bv wv sv mv lv kv ov cv x.p))]]) (fun i=>x.p.lines.length-i) ?_ 0 ⟨_,rfl,Zt2 _,rfl⟩;rintro i t H ⟨n,ht,hi,rfl⟩;refine⟨_,_,Ji (kt:=[1,3,4]) rfl rfl,?_⟩;rw[ht];simp only[st5_5,Zd];have key:i<x.p.lines.length\/¬i<x.p.lines.length:=Classical.em _;rcases key with h0|h0
  . have c1:decide ((i:Int)<x.p.lines.length)=true:=Zum (by omega);have wi:(IntKind.i64).wrap ((i:Int)+1)=((i+1:Nat):Int):=by rw[wrap_i64]<;>omega
    obtain⟨dv,hd1,hd2⟩:=hlcs.at_ (Zra h0);have g1:lcs[(i:Int).toNat*13+12]?=some dv:=by have:=congrArg (fun l=>l[12]?) hd1;simp only[Zrn,Zta,Zu] at this;rw[show(i:Int).toNat*13+12=i*13+12 by omega];simpa using this
    have ld:=hd2.len Tryz.underlying55;have at1:=hlv.at (k:= .i64) Tryz.underlying33 Qnt (by decide) (i:=(i:Int)) (by omega) (by omega);simp only[wA,↓Qc,simprocAttr,c1,wi,at1,g1,ld,bm,q256,q24,q16,s1,s2,s3,s4,s5,s6,s7,s8,ll,lk,lo,lc,ta,wH,wB];exact W.done ⟨i+1,⟨_,rfl,by omega,rfl⟩,by omega⟩
  have c1:decide ((i:Int)<x.p.lines.length)=false:=Zun (by omega);simp only[wA,↓Qc,simprocAttr,c1,s1,s2,s3,s4,s5,s6,s7,s8,ll,lk,lo,lc,ta,wH,wB];clear hi h0 c1 ht;refine W.done ?_;simp only[wA,↓Qc,simprocAttr,s1,s2,s3,s4,s5,s6,s7,s8,ll,lk,lo,lc,ta,wH,wB];refine W.ul ?_;refine W.loop (fun(i:Nat) t H=>∃n:Int,Yf [1,3,5] t 0=st5_9 (.ptr 0 1 0) (.int .i64 n) (.int .i64 i)/\i<=x.p.changes.length/\H=[[(1,.cells (Zd bv wv sv mv lv kv ov cv x.p))]]) (fun i=>x.p.changes.length-i) ?_ 0 ⟨_,rfl,Zt2 _,rfl⟩;rintro i t H ⟨n,ht,hi,rfl⟩;refine⟨_,_,Ji (kt:=[1,3,5]) rfl rfl,?_⟩;rw[ht];simp only[st5_9,Zd];have key:i<x.p.changes.length\/¬i<x.p.changes.length:=Classical.em _;rcases key with h0|h0
  . have c1:decide ((i:Int)<x.p.changes.length)=true:=Zum (by omega);have wi:(IntKind.i64).wrap ((i:Int)+1)=((i+1:Nat):Int):=by rw[wrap_i64]<;>omega
    obtain⟨dv,k,hd,hl⟩:=chd i h0;have ld:=fun g=>hl g;have at1:=hcv.at (k:= .i64) Tryz.underlying34 Qzq (by decide) (i:=(i:Int)) (by omega) (by omega);simp only[wA,↓Qc,simprocAttr,c1,wi,at1,hd,ld,bm,q256,q24,q16,s1,s2,s3,s4,s5,s6,s7,s8,ll,lk,lo,lc,ta,wH,wB];exact W.done ⟨i+1,⟨_,rfl,by omega,rfl⟩,by omega⟩
  have c1:decide ((i:Int)<x.p.changes.length)=false:=Zun (by omega);simp only[wA,↓Qc,simprocAttr,c1,s1,s2,s3,s4,s5,s6,s7,s8,ll,lk,lo,lc,ta,wH,wB];clear hi h0 c1 ht;refine W.done ?_;simp only[wA,↓Qc,simprocAttr,s1,s2,s3,s4,s5,s6,s7,s8,ll,lk,lo,lc,ta,wH,wB];refine W.ul ?_;refine W.loop (fun(i:Nat) t H=>∃n:Int,Yf [1,3,6] t 0=Zb1 (.ptr 0 1 0) (.int .i64 n) (.int .i64 i)/\i<=x.p.keys.length/\H=[[(1,.cells (Zd bv wv sv mv lv kv ov cv x.p))]]) (fun i=>x.p.keys.length-i) ?_ 0 ⟨_,rfl,Zt2 _,rfl⟩;rintro i t H ⟨n,ht,hi,rfl⟩;refine⟨_,_,Ji (kt:=[1,3,6]) rfl rfl,?_⟩;rw[ht];simp only[Zb1,Zd];have key:i<x.p.keys.length\/¬i<x.p.keys.length:=Classical.em _;rcases key with h0|h0
  . have c1:decide ((i:Int)<x.p.keys.length)=true:=Zum (by omega);have wi:(IntKind.i64).wrap ((i:Int)+1)=((i+1:Nat):Int):=by rw[wrap_i64]<;>omega
    obtain⟨v,h1,hv⟩:=hkcs.at_ h0;have g1:kcs[(i:Int).toNat*1]?=some v:=by simpa using h1
    have g2:kcs[(i:Int).toNat]?=some v:=by simpa using h1
    have lv:=hv.len Tryz.underlying26;have at1:=hkv.at (k:= .i64) Tryz.underlying22 Qew (by decide) (i:=(i:Int)) (by omega) (by omega);simp only[wA,↓Qc,simprocAttr,c1,wi,at1,g1,g2,lv,bm,q256,q24,q16,s1,s2,s3,s4,s5,s6,s7,s8,ll,lk,lo,lc,ta,wH,wB];exact W.done ⟨i+1,⟨_,rfl,by omega,rfl⟩,by omega⟩
  have c1:decide ((i:Int)<x.p.keys.length)=false:=Zun (by omega);simp only[wA,↓Qc,simprocAttr,c1,s1,s2,s3,s4,s5,s6,s7,s8,ll,lk,lo,lc,ta,wH,wB];clear hi h0 c1 ht;refine W.done ?_;simp only[wA,↓Qc,simprocAttr,s1,s2,s3,s4,s5,s6,s7,s8,ll,lk,lo,lc,ta,wH,wB];refine W.ul ?_;refine W.loop (fun(i:Nat) t H=>∃n:Int,Yf [1,3,7] t 0=Q8r (.ptr 0 1 0) (.int .i64 n) (.int .i64 i)/\i<=x.p.loaded.length/\H=[[(1,.cells (Zd bv wv sv mv lv kv ov cv x.p))]]) (fun i=>x.p.loaded.length-i) ?_ 0 ⟨_,rfl,Zt2 _,rfl⟩;rintro i t H ⟨n,ht,hi,rfl⟩;refine⟨_,_,Ji (kt:=[1,3,7]) rfl rfl,?_⟩;rw[ht];simp only[Q8r,Zd];have key:i<x.p.loaded.length\/¬i<x.p.loaded.length:=Classical.em _;rcases key with h0|h0
  . have c1:decide ((i:Int)<x.p.loaded.length)=true:=Zum (by omega);have wi:(IntKind.i64).wrap ((i:Int)+1)=((i+1:Nat):Int):=by rw[wrap_i64]<;>omega
    obtain⟨v,h1,hv⟩:=hocs.at_ h0;have g1:ocs[(i:Int).toNat*1]?=some v:=by simpa using h1
    have g2:ocs[(i:Int).toNat]?=some v:=by simpa using h1
    have lv:=hv.len Tryz.underlying26;have at1:=hov.at (k:= .i64) Tryz.underlying22 Qew (by decide) (i:=(i:Int)) (by omega) (by omega);simp only[wA,↓Qc,simprocAttr,c1,wi,at1,g1,g2,lv,bm,q256,q24,q16,s1,s2,s3,s4,s5,s6,s7,s8,ll,lk,lo,lc,ta,wH,wB];exact W.done ⟨i+1,⟨_,rfl,by omega,rfl⟩,by omega⟩
  have c1:decide ((i:Int)<x.p.loaded.length)=false:=Zun (by omega);simp only[wA,↓Qc,simprocAttr,c1,s1,s2,s3,s4,s5,s6,s7,s8,ll,lk,lo,lc,ta,wH,wB];clear hi h0 c1 ht;refine W.done ?_;simp only[wA,↓Qc,simprocAttr,s1,s2,s3,s4,s5,s6,s7,s8,ll,lk,lo,lc,ta,wH,wB];exact W.done (Qk.ret rfl rfl ⟨_,rfl⟩)
end
end Go.Proofs.YtidniacddkalaaaGreatDoor
namespace Go.Proofs.YtidniacddkalaaaGreatDoor
open Go.AM
attribute [local irreducible] U W
noncomputable def lawK:FuncId->Option (List V->Option V):=fun f=>
 if f=4 then some (fun xs=>match xs with|[]=>some (.bool true)|_=>none)
 else if f=5\/f=6\/f=7\/f=8 then some (BM.fzK Tryz.prog Qg f)
 else none
noncomputable def Qet:Pol:=BM.givenP Qg lawK
theorem Zdz(al:BM.Ans Tryz.prog 4 [] (.bool true)):Okay Tryz.prog Qet:=by
 refine BM.givenP_ok okD ?_;intro f k hk xs y h;unfold lawK at hk;split at hk
 . rename_i e;subst e;cases hk;cases xs with
   |nil=>cases h;exact⟨rfl,al⟩
   |cons a b=>cases h
 . split at hk
   . cases hk;exact BM.fzK_ok okD xs y h
   . cases hk
end Go.Proofs.YtidniacddkalaaaGreatDoor
namespace Go.Proofs.YtidniacddkalaaaGreatDoor
open Go.AM
attribute [local irreducible] U W
section
variable {bv wv sv mv lv kv ov cv : V} {x : B6}
theorem Q43(h:Jx bv wv sv mv lv kv ov cv x):(V.agg (Zd bv wv sv mv lv kv ov cv x.p)).pure=true:=by obtain⟨_,_,h1⟩:=h.blocks;obtain⟨_,_,h2⟩:=h.waits;obtain⟨_,_,h5⟩:=h.lines;obtain⟨_,_,h6⟩:=h.keys;obtain⟨_,_,h7⟩:=h.loaded;obtain⟨_,_,h8⟩:=h.changes;simp only[Zd,V.pure,Qx,h1.pure,h2.pure,Q0.pure h.space,Q0.pure h.own,h5.pure,h6.pure,h7.pure,h8.pure,Zts]
theorem Q44{C:AM.Call}{fn fr:Nat}{d:Option Nat}{H:Heap}:callOp Qet C fn fr d 4 [] H=some (.ret (.bool true),H):=
 BM.given_op (k:=fun xs=>match xs with|[]=>some (.bool true)|_=>none) (by unfold lawK;exact if_pos rfl) rfl
theorem Qc1{f:FuncId}(hf:f=5\/f=6\/f=7\/f=8){args:List V}{y:V}(h:Fz Tryz.prog Qg f args fun r=>r=y)(hx:Qx args=true)(hy:y.pure=true){C:AM.Call}{fn fr:Nat}{d:Option Nat}{H:Heap}:callOp Qet C fn fr d f args H=some (.ret y,H):=by refine BM.given_op (k:=BM.fzK Tryz.prog Qg f) ?_ (BM.fzK_eq h hx hy);unfold lawK;rw[if_neg (by rcases hf with rfl|rfl|rfl|rfl<;>decide),if_pos hf]
theorem Ky:Qet.mt=Qg.mt:=rfl
set_option maxHeartbeats 8000000 in
theorem Zac(h:Jx bv wv sv mv lv kv ov cv x)(f:x.Fits)(id:Int)(s:List UInt8):Fz Tryz.prog Qet 3 [.agg (Zd bv wv sv mv lv kv ov cv x.p),.int .i64 id,.str s] fun r=>r= .bool true:=by
 refine Qw Tryz.func3 rfl ?_;have pp:=Q43 h;have pq:Qx (Zd bv wv sv mv lv kv ov cv x.p)=true:=pp;obtain⟨_,⟨gr,rfl⟩,hG⟩:=Fz.fix (Q2c h f);have kA:∀fn fr d H,callOp Qet (Qp Tryz.prog Qet) fn fr d 4 [] H=_:=fun fn fr d H=>Q44;have kG:∀fn fr d H,callOp Qet (Qp Tryz.prog Qet) fn fr d 5 [.agg (Zd bv wv sv mv lv kv ov cv x.p)] H=_:=fun fn fr d H=>Qc1 (.inl rfl) hG (by simp only[Qx,pp,Zs1]) rfl;obtain⟨_,⟨w,e,rfl,hw⟩,hL⟩:=Fz.fix (Zeh h f id);obtain⟨s1,s2,s3,s4,s5,s6,s7,s8⟩:=Bf h;cases gr
 case true=>simp only[Zd] at kG⊢;simp only[wA,↓Qc,simprocAttr,Tryz.ntmps3,Ky,ta,wH,wB,kA,kG,s1,s2,s3,s4,s5,s6,s7,s8];exact W.done (Qk.ret rfl rfl rfl)
 cases c0:decide ((s.length:Int)>1000)
 case true=>simp only[Zd] at kG⊢;simp only[wA,↓Qc,simprocAttr,Tryz.ntmps3,Ky,ta,wH,wB,kA,kG,s1,s2,s3,s4,s5,s6,s7,s8,c0];exact W.done (Qk.ret rfl rfl rfl)
 have hs:s.length<=1000000:=by have:=of_decide_eq_false c0;omega
 rcases hw with⟨rfl,es,hes,hok,hn⟩|⟨he,rfl⟩
 case inr=>
  have kL:∀fn fr d H,callOp Qet (Qp Tryz.prog Qet) fn fr d 6 [.agg (Zd bv wv sv mv lv kv ov cv x.p),.int .i64 id] H=_:=fun fn fr d H=>Qc1 (.inr (.inl rfl)) hL (by simp only[Qx,V.pure,pq,Zs1]) rfl;have kK:∀fn fr d H,callOp Qet (Qp Tryz.prog Qet) fn fr d 7 [.agg (Zd bv wv sv mv lv kv ov cv x.p),.int .i64 id,.str s] H=_:=fun fn fr d H=>Qc1 (.inr (.inr (.inl rfl))) (Q75 h id s he hL) (by simp only[Qx,V.pure,pq,Zs1]) rfl;have c1:(e !=0)=true:=by simpa using he
  simp only[Zd] at kG kL kK⊢;simp only[wA,↓Qc,simprocAttr,Tryz.ntmps3,Ky,ta,wH,wB,kA,kG,kL,kK,s1,s2,s3,s4,s5,s6,s7,s8,c0,c1,beq_self_eq_true];exact W.done (Qk.ret rfl rfl rfl)
 have pw:w.pure=true:=by
  obtain⟨_,⟨rfl,_⟩|⟨fl,rfl⟩⟩:=hes
  . rfl
  . simp only[V.pure,Qls]
 have kL:∀fn fr d H,callOp Qet (Qp Tryz.prog Qet) fn fr d 6 [.agg (Zd bv wv sv mv lv kv ov cv x.p),.int .i64 id] H=_:=fun fn fr d H=>Qc1 (.inr (.inl rfl)) hL (by simp only[Qx,V.pure,pq,Zs1]) (by simp only[V.pure,Qx,pw,Zs1]);have kK:∀t:List UInt8,t.length<=1000000->∀fn fr d H,callOp Qet (Qp Tryz.prog Qet) fn fr d 7 [.agg (Zd bv wv sv mv lv kv ov cv x.p),.int .i64 id,.str t] H=some (.ret (.tuple [.int .i64 (Qbd es t).1,.int .i64 (Qbd es t).2]),H):=fun t ht fn fr d H=>Qc1 (.inr (.inr (.inl rfl))) (Zdr h id t ht hes hn hL) (by simp only[Qx,V.pure,pq,Zs1]) rfl;have kC:∀t:List UInt8,t.length<=1000000->∀fn fr d H,callOp Qet (Qp Tryz.prog Qet) fn fr d 8 [.str t] H=some (.ret (.int .i64 (Qe1 t)),H):=fun t ht fn fr d H=>Qc1 (.inr (.inr (.inr rfl))) (Qf4 t ht) rfl rfl;have kK1:=kK s hs;have sw:=Ze hes;have len:=hes.len Tryz.underlying39;simp only[Zd] at kG kL kK kK1⊢;simp only[wA,↓Qc,simprocAttr,Tryz.ntmps3,Ky,ta,wH,wB,kA,kG,kL,kK1,s1,s2,s3,s4,s5,s6,s7,s8,c0,sw,len];refine W.ul ?_;refine W.loopS (kt:=[1,2,3,8,10,11,12,13]) rfl (fun i:Nat=>Zbl (.int .i64 id) (.str s) (.ptr 0 3 0) w (.int .i64 (Qbd es s).1) (.int .i64 (Qbd es s).2) (.int .i64 (Qbh es s i)) (.int .i64 i)) (fun _=>[[(3,.cells (Zd bv wv sv mv lv kv ov cv x.p))]])
  (fun i=>i<=es.length) (fun i=>es.length-i) ?_ 0 (Zt2 _) rfl rfl
 intro i hi;simp only[Zbl,Zd];by_cases h0:i<es.length
 case neg=>
  have hl:i=es.length:=by omega
  subst hl;have c1:decide ((es.length:Int)<es.length)=false:=Zun (by omega);have c2:decide ((es.length:Int)<=16)=true:=Zum (by omega);have re:=Q7t hok s;simp only[Zr1] at re;obtain⟨re1,re2⟩:=re;generalize(Qbd es s).1=n1 at*;generalize(Qbd es s).2=n2 at*;generalize Qbh es s es.length=n3 at*;simp only[wA,↓Qc,simprocAttr,c1,Ky,s1,s2,s3,s4,s5,s6,s7,s8,sw,len,ta,wH,wB];refine W.done ?_;have eb:∀x y a b,Zp Tryz.prog .eql 4 x y (.bool a) (.bool b)=some (.bool (a==b)):=fun x y a b=>rfl;simp only[wA,↓Qc,simprocAttr,c2,re1,re2,eb,Ky,s1,s2,s3,s4,s5,s6,s7,s8,sw,len,ta,wH,wB];exact W.done (Qk.ret rfl rfl rfl)
 case pos=>
  have c1:decide ((i:Int)<es.length)=true:=Zum (by omega);have at1:=hes.at (k:= .i64) Tryz.underlying39 Ql8 (by decide) (i:=(i:Int)) (by omega) (by omega);have hm:=Ztp h0;obtain⟨b1,b2,b3⟩:=hok.1 _ hm;have hlk:=Q4y hok i h0;have kC1:=kC es[i].1 (by have:=Ql1 b1;omega);have kK2:=kK es[i].1 (by have:=Ql1 b1;omega);rw[b1] at kC1;rw[hlk] at kK2;have ge0:=congrArg (fun l=>l[0]?) (Qik h0);have ge1:=congrArg (fun l=>l[1]?) (Qik h0);simp only[Zrn,Zta] at ge0 ge1;have g0:(Yi es)[(i:Int).toNat*2]?=some (.str es[i].1):=by simpa using ge0
  have g0' :(Yi es)[(i:Int).toNat*2+0]?=some (.str es[i].1):=by simpa using ge0
  have g1:(Yi es)[(i:Int).toNat*2+1]?=some (.int .i64 es[i].2):=by simpa using ge1
  have wi:(IntKind.i64).wrap ((i:Int)+1)=((i+1:Nat):Int):=by rw[wrap_i64]<;>omega
  have hf:Qbh es s (i+1)=if es[i].1=s then es[i].2 else Qbh es s i:=by rw[Qbh,Zra h0]
  have d1:decide (es[i].2<1)=false:=Zun (by omega);have d2:decide (es[i].2>15)=false:=Zun (by omega);have d3:(es[i].2 !=es[i].2)=false:=bne_self_eq_false _;have gq:∀x y a b,Zp Tryz.prog .geq 9 x y (.str a) (.str b)=some (.bool (!(Op.bytesLess a b))):=fun x y a b=>rfl;have hw:∃fl,w= .iS (Yi es) es.length fl:=by
   obtain⟨_,⟨rfl,h9⟩|⟨fl,rfl⟩⟩:=hes
   . omega
   . exact⟨fl,rfl⟩
  obtain⟨fl,rfl⟩:=hw;by_cases hz:0<i
  case neg=>
   have c0:decide ((i:Int)>0)=false:=Zun (by omega);generalize es[i]=e at*;simp only[wA,↓Qc,simprocAttr,c0,c1,at1,g0,g0',g1,wi,d1,d2,d3,gq,kC1,kK2,Ky,s1,s2,s3,s4,s5,s6,s7,s8,sw,len,ta,wH,wB];refine W.opsT (by kernel_rfl) ?_;simp only[wA,↓Qc,simprocAttr,c0,c1,at1,g0,g0',g1,wi,d1,d2,d3,gq,kC1,kK2,Ky,s1,s2,s3,s4,s5,s6,s7,s8,sw,len,ta,wH,wB];refine W.opsT (by kernel_rfl) ?_;simp only[wA,↓Qc,simprocAttr,c0,c1,at1,g0,g0',g1,wi,d1,d2,d3,gq,kC1,kK2,Ky,s1,s2,s3,s4,s5,s6,s7,s8,sw,len,ta,wH,wB];cases ce:(e.1==s)
   . have cn:¬e.1=s:=by simpa using ce
     rw[if_neg cn] at hf;simp only[wA,↓Qc,simprocAttr,ce,at1,g0,g0',g1,wi,d1,d2,d3,gq,kC1,kK2,Ky,s1,s2,s3,s4,s5,s6,s7,s8,sw,len,ta,wH,wB];exact W.done ⟨i+1,by rw[hf];rfl,rfl,by omega,by omega⟩
   . have cn:e.1=s:=by simpa using ce
     rw[if_pos cn] at hf;simp only[wA,↓Qc,simprocAttr,ce,at1,g0,g0',g1,wi,d1,d2,d3,gq,kC1,kK2,Ky,s1,s2,s3,s4,s5,s6,s7,s8,sw,len,ta,wH,wB];exact W.done ⟨i+1,by rw[hf];rfl,rfl,by omega,by omega⟩
  case pos=>
   obtain⟨k,hk⟩:∃k,i=k+1:=⟨i-1,by omega⟩;have c0:decide ((i:Int)>0)=true:=Zum (by omega);have wk:(IntKind.i64).wrap ((i:Int)-1)=((k:Nat):Int):=by rw[wrap_i64]<;>omega
   have hk0:k<es.length:=by omega
   have at2:=hes.at (k:= .i64) Tryz.underlying39 Ql8 (by decide) (i:=(k:Int)) (by omega) (by omega);have gk:=congrArg (fun l=>l[0]?) (Qik hk0);simp only[Zrn,Zta] at gk;have g2:(Yi es)[(k:Int).toNat*2]?=some (.str es[k].1):=by simpa using gk
   have g2' :(Yi es)[(k:Int).toNat*2+0]?=some (.str es[k].1):=by simpa using gk
   have lt:=hok.2 k (by omega);have lt' :Op.bytesLess es[k].1 es[i].1=true:=by subst hk;exact lt
   generalize es[k]=q at*;generalize es[i]=e at*;simp only[wA,↓Qc,simprocAttr,c0,c1,at1,g0,g0',g1,wk,at2,g2,g2',lt',Ztn,wi,d1,d2,d3,gq,kC1,kK2,Ky,s1,s2,s3,s4,s5,s6,s7,s8,sw,len,ta,wH,wB];refine W.opsT (by kernel_rfl) ?_;simp only[wA,↓Qc,simprocAttr,c0,c1,at1,g0,g0',g1,wk,at2,g2,g2',lt',Ztn,wi,d1,d2,d3,gq,kC1,kK2,Ky,s1,s2,s3,s4,s5,s6,s7,s8,sw,len,ta,wH,wB];refine W.opsT (by kernel_rfl) ?_;simp only[wA,↓Qc,simprocAttr,c0,c1,at1,g0,g0',g1,wk,at2,g2,g2',lt',Ztn,wi,d1,d2,d3,gq,kC1,kK2,Ky,s1,s2,s3,s4,s5,s6,s7,s8,sw,len,ta,wH,wB];cases ce:(e.1==s)
   . have cn:¬e.1=s:=by simpa using ce
     rw[if_neg cn] at hf;simp only[wA,↓Qc,simprocAttr,ce,at1,g0,g0',g1,wk,at2,g2,g2',lt',Ztn,wi,d1,d2,d3,gq,kC1,kK2,Ky,s1,s2,s3,s4,s5,s6,s7,s8,sw,len,ta,wH,wB];exact W.done ⟨i+1,by rw[hf];rfl,rfl,by omega,by omega⟩
   . have cn:e.1=s:=by simpa using ce
     rw[if_pos cn] at hf;simp only[wA,↓Qc,simprocAttr,ce,at1,g0,g0',g1,wk,at2,g2,g2',lt',Ztn,wi,d1,d2,d3,gq,kC1,kK2,Ky,s1,s2,s3,s4,s5,s6,s7,s8,sw,len,ta,wH,wB];exact W.done ⟨i+1,by rw[hf];rfl,rfl,by omega,by omega⟩
end
end Go.Proofs.YtidniacddkalaaaGreatDoor
namespace Go.Proofs.YtidniacddkalaaaGreatDoor
open Go.AM
theorem Zv{n:Nat}{t:TypeId}{k:IntKind}{xs:List V}(hu:(Tryz.prog).underlying t=some (.int k))(h:Z2 Tryz.prog n t xs):∃m,xs=[.int k m]:=by
 cases n with
 |zero=>exact h.elim
 |succ n=>
  unfold Z2 at h;rw[hu] at h;obtain⟨m,h1,_⟩:=h;exact⟨m,h1⟩
theorem Q3w{n:Nat}{t:TypeId}{k:IntKind}{xs:List V}(hu:(Tryz.prog).underlying t=some (.int k))(h:Z2 Tryz.prog n t xs):∃m,xs=[.int k m]/\k.min<=m/\m<=k.max:=by
 cases n with
 |zero=>exact h.elim
 |succ n=>
  unfold Z2 at h;rw[hu] at h;obtain⟨m,h1,h2⟩:=h;simp only[Lit.wf,Zr1,decide_eq_true_eq] at h2;exact⟨m,h1,h2⟩
theorem Qim{n:Nat}{t:TypeId}{xs:List V}(hu:(Tryz.prog).underlying t=some (.int .u32))(h:Z2 Tryz.prog n t xs):∃m,xs=[.int .u32 m]/\0<=m/\m<4294967296:=by obtain⟨m,h1,h2,h3⟩:=Q3w hu h;have e1:(IntKind.u32).min=0:=rfl;have e2:(IntKind.u32).max=4294967295:=rfl;exact⟨m,h1,by omega,by omega⟩
theorem Q41{n:Nat}{t:TypeId}{xs:List V}(hu:(Tryz.prog).underlying t=some (.int .i64))(h:Z2 Tryz.prog n t xs):∃m,xs=[.int .i64 m]/\ -9223372036854775808<=m/\m<=9223372036854775807:=by obtain⟨m,h1,h2,h3⟩:=Q3w hu h;have e1:(IntKind.i64).min= -9223372036854775808:=rfl;have e2:(IntKind.i64).max=9223372036854775807:=rfl;exact⟨m,h1,by omega,by omega⟩
theorem Qdh{n:Nat}{t e:TypeId}{xs:List V}(hu:(Tryz.prog).underlying t=some (.slice e))(h:Z2 Tryz.prog n t xs):
 ∃v m ys,xs=[v]/\ys.length<=K6/\(∀y∈ys,Z2 Tryz.prog m e y)/\((v= .nS/\ys=[])\/v= .iS ys.flatten ys.length false):=by
 cases n with
 |zero=>exact h.elim
 |succ n=>
  unfold Z2 at h;rw[hu] at h;rcases h with h|⟨ys,h,h1,h2⟩
  . exact⟨_,n,[],h,Zt2 _,(fun _ h=>by cases h),.inl ⟨rfl,rfl⟩⟩
  . exact⟨_,n,ys,h,h1,h2,.inr rfl⟩
theorem Qpz{esz:Nat}{v:V}{ys:List (List V)}(h:(v= .nS/\ys=[])\/v= .iS ys.flatten ys.length false)(hl:ys.flatten.length=ys.length*esz):Q0 esz v ys.flatten ys.length:=by
 rcases h with⟨rfl,rfl⟩|rfl
 . exact Q0.nil
 . exact Q0.mk hl
theorem Qig{n:Nat}{xs:List V}(h:Z2 Tryz.prog n 26 xs):∃v l,xs=[v]/\Qf v l/\l.length<=K6:=by obtain⟨v,m,ys,rfl,h1,h2,h3⟩:=Qdh Tryz.underlying26 h;obtain⟨l,h4,h5⟩:=Qiz (P:=Tryz.prog) Tryz.underlying5 ys h2;refine⟨v,l,rfl,?_,by omega⟩;have:=Qpz (esz:=1) h3 (by rw[h4,Q8,h5];omega);rw[h4,<-h5] at this;exact this
theorem Qr3{n:Nat}:∀ys:List (List V),(∀y∈ys,Z2 Tryz.prog n 3 y)->∃l:List Int,l.length=ys.length/\ys.flatten=Qr l
 |[],_=>⟨[],rfl,rfl⟩
 |y::ys,h=>by
  obtain⟨l,h1,h2⟩:=Qr3 ys fun z hz=>h z (Zrz _ hz);obtain⟨m,rfl⟩:=Zv Tryz.underlying3 (h y (by simp));exact⟨m::l,by simp[h1],by rw[List.flatten_cons,h2];rfl⟩
theorem Q0r{n:Nat}{xs:List V}(h:Z2 Tryz.prog n 32 xs):∃v l,xs=[v]/\Ke v l/\l.length<=K6:=by obtain⟨v,m,ys,rfl,h1,h2,h3⟩:=Qdh Tryz.underlying32 h;obtain⟨l,h5,h4⟩:=Qr3 ys h2;refine⟨v,l,rfl,?_,by omega⟩;have:=Qpz (esz:=1) h3 (by rw[h4,X7,h5];omega);rw[h4,<-h5] at this;exact this
theorem Qsw{n:Nat}:∀ys:List (List V),(∀y∈ys,Z2 Tryz.prog n 26 y)->∃l:List (List UInt8),l.length=ys.length/\Qkr ys.flatten l/\∀k∈l,k.length<=K6
 |[],_=>⟨[],rfl,rfl,fun _ h=>by cases h⟩
 |y::ys,h=>by
  obtain⟨l,h1,h2,h3⟩:=Qsw ys fun z hz=>h z (Zrz _ hz);obtain⟨v,k,rfl,h4,h5⟩:=Qig (h y (by simp));exact⟨k::l,by simp[h1],⟨v,_,rfl,h4,h2⟩,Zuh.2 ⟨h5,h3⟩⟩
theorem Qkc{n:Nat}{xs:List V}(h:Z2 Tryz.prog n 22 xs):∃v l,xs=[v]/\Kt v l/\l.length<=K6/\∀k∈l,k.length<=K6:=by obtain⟨v,m,ys,rfl,h1,h2,h3⟩:=Qdh Tryz.underlying22 h;obtain⟨l,h5,h4,h6⟩:=Qsw ys h2;refine⟨v,l,rfl,⟨_,h4,?_⟩,by omega,h6⟩;have:=Qpz (esz:=1) h3 (by rw[h4.len,h5];omega);rw[<-h5] at this;exact this
theorem Qis{n:Nat}{xs:List V}(h:Z2 Tryz.prog n 31 xs):∃p:Zq,xs=p.cells/\p.Rng:=by
 cases n with
 |zero=>exact h.elim
 |succ n=>
  unfold Z2 at h;rw[Tryz.underlying31] at h;simp only[Xt,Zrw,Zsc] at h;obtain⟨x1,r1,a1,⟨x2,r2,a2,⟨x3,r3,a3,⟨x4,r4,a4,⟨x5,r5,a5,e6,rfl⟩,rfl⟩,rfl⟩,rfl⟩,rfl⟩:=h;obtain⟨m1,rfl⟩:=Zv Tryz.underlying3 a1;obtain⟨m2,rfl,u2⟩:=Qim Tryz.underlying27 a2;obtain⟨m3,rfl,u3⟩:=Qim Tryz.underlying27 a3;obtain⟨m4,rfl,u4⟩:=Qim Tryz.underlying27 a4;obtain⟨m5,rfl,u5⟩:=Qim Tryz.underlying27 a5;subst e6;exact⟨⟨m1,m2,m3,m4,m5⟩,rfl,u2,u3,u4,u5⟩
theorem Qr6{n:Nat}:∀ys:List (List V),(∀y∈ys,Z2 Tryz.prog n 31 y)->∃l:List Zq,l.length=ys.length/\ys.flatten=Zg l
 |[],_=>⟨[],rfl,rfl⟩
 |y::ys,h=>by
  obtain⟨l,h1,h2⟩:=Qr6 ys fun z hz=>h z (Zrz _ hz);obtain⟨m,rfl,_⟩:=Qis (h y (by simp));exact⟨m::l,by simp[h1],by rw[List.flatten_cons,h2];rfl⟩
theorem Qtz(l:List Zq):(Zg l).length=l.length*5:=by
 induction l with
 |nil=>rfl
 |cons a l ih=>
  have e:Zg (a::l)=a.cells++Zg l:=rfl;rw[e,Zsi,ih,Zrs];have:a.cells.length=5:=rfl;omega
theorem Q1m{n:Nat}{xs:List V}(h:Z2 Tryz.prog n 55 xs):∃v l,xs=[v]/\Jn v l/\l.length<=K6:=by obtain⟨v,m,ys,rfl,h1,h2,h3⟩:=Qdh Tryz.underlying55 h;obtain⟨l,h5,h4⟩:=Qr6 ys h2;refine⟨v,l,rfl,?_,by omega⟩;have:=Qpz (esz:=5) h3 (by rw[h4,Qtz,h5]);rw[h4,<-h5] at this;exact this
theorem Q1q{n:Nat}{xs:List V}(h:Z2 Tryz.prog n 112 xs):∃a v l,xs=[.int .i64 a,v]/\Qf v l/\l.length<=K6/\ -9223372036854775808<=a/\a<=9223372036854775807:=by
 cases n with
 |zero=>exact h.elim
 |succ n=>
  unfold Z2 at h;rw[Tryz.underlying112] at h;simp only[Xt,Zrw,Zsc] at h;obtain⟨x1,r1,a1,⟨x2,r2,a2,e3,rfl⟩,rfl⟩:=h;obtain⟨m1,rfl,u1⟩:=Q41 Tryz.underlying3 a1;obtain⟨v,l,rfl,h1,h2⟩:=Qig a2;subst e3;exact⟨m1,v,l,rfl,h1,h2,u1⟩
theorem Qog{n:Nat}:∀ys:List (List V),(∀y∈ys,Z2 Tryz.prog n 112 y)->∃l:List (Int×List UInt8),l.length=ys.length/\Qj6 ys.flatten l/\∀w∈l,w.2.length<=K6/\ -9223372036854775808<=w.1/\w.1<=9223372036854775807
 |[],_=>⟨[],rfl,rfl,fun _ h=>by cases h⟩
 |y::ys,h=>by
  obtain⟨l,h1,h2,h3⟩:=Qog ys fun z hz=>h z (Zrz _ hz);obtain⟨a,v,k,rfl,h4,h5⟩:=Q1q (h y (by simp));exact⟨(a,k)::l,by simp[h1],⟨v,_,rfl,h4,h2⟩,Zuh.2 ⟨h5,h3⟩⟩
theorem Qwl{n:Nat}{xs:List V}(h:Z2 Tryz.prog n 23 xs):∃v l,xs=[v]/\Qa9 v l/\l.length<=K6/\∀w∈l,w.2.length<=K6/\ -9223372036854775808<=w.1/\w.1<=9223372036854775807:=by obtain⟨v,m,ys,rfl,h1,h2,h3⟩:=Qdh Tryz.underlying23 h;obtain⟨l,h5,h4,h6⟩:=Qog ys h2;refine⟨v,l,rfl,⟨_,h4,?_⟩,by omega,h6⟩;have:=Qpz (esz:=2) h3 (by rw[h4.len,h5]);rw[<-h5] at this;exact this
theorem Q29{n:Nat}{xs:List V}(h:Z2 Tryz.prog n 57 xs):∃l dv,xs=Zu l dv/\Jn dv l.dead/\l.dead.length<=K6/\l.root.Rng:=by
 cases n with
 |zero=>exact h.elim
 |succ n=>
  unfold Z2 at h;rw[Tryz.underlying57] at h;simp only[Xt,Zrw,Zsc] at h;obtain⟨x1,r1,a1,⟨x2,r2,a2,⟨x3,r3,a3,⟨x4,r4,a4,⟨x5,r5,a5,⟨x6,r6,a6,⟨x7,r7,a7,⟨x8,r8,a8,⟨x9,r9,a9,e10,rfl⟩,rfl⟩,rfl⟩,rfl⟩,rfl⟩,rfl⟩,rfl⟩,rfl⟩,rfl⟩:=h;obtain⟨m1,rfl⟩:=Zv Tryz.underlying3 a1;obtain⟨m2,rfl⟩:=Zv Tryz.underlying5 a2;obtain⟨m3,rfl⟩:=Zv Tryz.underlying3 a3;obtain⟨m4,rfl⟩:=Zv Tryz.underlying3 a4;obtain⟨m5,rfl⟩:=Zv Tryz.underlying27 a5;obtain⟨m6,rfl⟩:=Zv Tryz.underlying27 a6;obtain⟨m7,rfl⟩:=Zv Tryz.underlying3 a7;obtain⟨p,rfl,up⟩:=Qis a8;obtain⟨v,d,rfl,h1,h2⟩:=Q1m a9;subst e10;exact⟨⟨m1,m2,m3,m4,m5,m6,m7,p,d⟩,v,rfl,h1,h2,up⟩
theorem Qph{n:Nat}:∀ys:List (List V),(∀y∈ys,Z2 Tryz.prog n 57 y)->∃l:List Zt,l.length=ys.length/\LinesC ys.flatten l/\∀x∈l,x.dead.length<=K6/\x.root.Rng
 |[],_=>⟨[],rfl,rfl,fun _ h=>by cases h⟩
 |y::ys,h=>by
  obtain⟨l,h1,h2,h3⟩:=Qph ys fun z hz=>h z (Zrz _ hz);obtain⟨x,v,rfl,h4,h5⟩:=Q29 (h y (by simp));exact⟨x::l,by simp[h1],⟨v,_,rfl,h4,h2⟩,Zuh.2 ⟨h5,h3⟩⟩
theorem Qxm{n:Nat}{xs:List V}(h:Z2 Tryz.prog n 33 xs):∃v l,xs=[v]/\Qij v l/\l.length<=K6/\∀x∈l,x.dead.length<=K6/\x.root.Rng:=by obtain⟨v,m,ys,rfl,h1,h2,h3⟩:=Qdh Tryz.underlying33 h;obtain⟨l,h5,h4,h6⟩:=Qph ys h2;refine⟨v,l,rfl,⟨_,h4,?_⟩,by omega,h6⟩;have:=Qpz (esz:=13) h3 (by rw[h4.len,h5]);rw[<-h5] at this;exact this
theorem Qvf{n:Nat}{xs:List V}(h:Z2 Tryz.prog n 59 xs):∃c dv k,xs=Za c dv/\Qf dv k/\c.n=k.length/\k.length<=K6/\c.laid.Rng:=by
 cases n with
 |zero=>exact h.elim
 |succ n=>
  unfold Z2 at h;rw[Tryz.underlying59] at h;simp only[Xt,Zrw,Zsc] at h;obtain⟨x1,r1,a1,⟨x2,r2,a2,⟨x3,r3,a3,⟨x4,r4,a4,⟨x5,r5,a5,⟨x6,r6,a6,⟨x7,r7,a7,⟨x8,r8,a8,e9,rfl⟩,rfl⟩,rfl⟩,rfl⟩,rfl⟩,rfl⟩,rfl⟩,rfl⟩:=h;obtain⟨m1,rfl⟩:=Zv Tryz.underlying3 a1;obtain⟨m2,rfl⟩:=Zv Tryz.underlying3 a2;obtain⟨m3,rfl⟩:=Zv Tryz.underlying3 a3;obtain⟨m4,rfl⟩:=Zv Tryz.underlying5 a4;obtain⟨m5,rfl⟩:=Zv Tryz.underlying3 a5;obtain⟨m6,rfl⟩:=Zv Tryz.underlying3 a6;obtain⟨v,k,rfl,h1,h2⟩:=Qig a7;obtain⟨p,rfl,up⟩:=Qis a8;subst e9;exact⟨⟨m1,m2,m3,m4,m5,m6,k.length,p⟩,v,k,rfl,h1,rfl,h2,up⟩
theorem Qkt{n:Nat}:∀ys:List (List V),(∀y∈ys,Z2 Tryz.prog n 59 y)->∃l ds,l.length=ys.length/\K9 ys.flatten l ds/\(∀k∈ds,k.length<=K6)/\∀c∈l,c.laid.Rng
 |[],_=>⟨[],[],rfl,rfl,(fun _ h=>by cases h),fun _ h=>by cases h⟩
 |y::ys,h=>by
  obtain⟨l,ds,h1,h2,h3,g3⟩:=Qkt ys fun z hz=>h z (Zrz _ hz);obtain⟨c,v,k,rfl,h4,h5,h6,g6⟩:=Qvf (h y (by simp));exact⟨c::l,k::ds,by simp[h1],⟨v,_,rfl,h4,h5,h2⟩,Zuh.2 ⟨h6,h3⟩,Zuh.2 ⟨g6,g3⟩⟩
theorem Qq9{n:Nat}{xs:List V}(h:Z2 Tryz.prog n 34 xs):∃v cs l ds,xs=[v]/\K9 cs l ds/\Q0 12 v cs l.length/\l.length<=K6/\(∀k∈ds,k.length<=K6)/\∀c∈l,c.laid.Rng:=by obtain⟨v,m,ys,rfl,h1,h2,h3⟩:=Qdh Tryz.underlying34 h;obtain⟨l,ds,h5,h4,h6⟩:=Qkt ys h2;refine⟨v,_,l,ds,rfl,h4,?_,by omega,h6⟩;have:=Qpz (esz:=12) h3 (by rw[h4.toC.len,h5]);rw[<-h5] at this;exact this
theorem Q1z{n:Nat}{xs:List V}(h:Z2 Tryz.prog n 36 xs):∃bv wv sv mv lv kv ov cv x,xs=Zd bv wv sv mv lv kv ov cv x.p/\Jx bv wv sv mv lv kv ov cv x/\x.Fits:=by
 cases n with
 |zero=>exact h.elim
 |succ n=>
  unfold Z2 at h;rw[Tryz.underlying36] at h;simp only[Xt,Zrw,Zsc] at h;obtain⟨x1,r1,a1,⟨x2,r2,a2,⟨x3,r3,a3,⟨x4,r4,a4,⟨x5,r5,a5,⟨x6,r6,a6,⟨x7,r7,a7,⟨x8,r8,a8,⟨x9,r9,a9,⟨x10,r10,a10,⟨x11,r11,a11,e12,rfl⟩,rfl⟩,rfl⟩,rfl⟩,rfl⟩,rfl⟩,rfl⟩,rfl⟩,rfl⟩,rfl⟩,rfl⟩:=h;obtain⟨gen,rfl⟩:=Zv Tryz.underlying27 a2;obtain⟨root,rfl,rr⟩:=Qis a3;obtain⟨mv,own,rfl,o1,o2⟩:=Q0r a4;obtain⟨lv,lines,rfl,l1,l2,l3⟩:=Qxm a5;obtain⟨kv,keys,rfl,k1,k2,k3⟩:=Qkc a6;obtain⟨ov,loaded,rfl,q1,q2,q3⟩:=Qkc a7;obtain⟨cv,cs,changes,datas,rfl,c1,c2,c3,c4,c5⟩:=Qq9 a8;obtain⟨logged,rfl⟩:=Zv Tryz.underlying3 a9;obtain⟨nid,rfl⟩:=Zv Tryz.underlying3 a10;obtain⟨ng,rfl⟩:=Zv Tryz.underlying27 a11;subst e12;cases n with
  |zero=>exact a1.elim
  |succ n=>
   unfold Z2 at a1;rw[Tryz.underlying29] at a1;simp only[Xt,Zrw,Zsc] at a1;obtain⟨y1,s1,b1,⟨y2,s2,b2,⟨y3,s3,b3,⟨y4,s4,b4,e5,rfl⟩,rfl⟩,rfl⟩,rfl⟩:=a1;obtain⟨sv,space,rfl,p1,p2⟩:=Qig b2;obtain⟨epoch,rfl⟩:=Zv Tryz.underlying27 b3;obtain⟨count,rfl⟩:=Zv Tryz.underlying27 b4;subst e5;cases n with
   |zero=>exact b1.elim
   |succ n=>
    unfold Z2 at b1;rw[Tryz.underlying25] at b1;simp only[Xt,Zrw,Zsc] at b1;obtain⟨z1,t1,d1,⟨z2,t2,d2,e3,rfl⟩,rfl⟩:=b1;obtain⟨bv,blocks,rfl,v1,v2,v3⟩:=Qkc d1;obtain⟨wv,waits,rfl,w1,w2,w3⟩:=Qwl d2;subst e3;exact⟨bv,wv,sv,mv,lv,kv,ov,cv,⟨blocks,waits,space,⟨epoch,count,gen,root,own,lines,keys,loaded,changes,logged,nid,ng⟩,datas⟩,rfl,
     ⟨v1,w1,p1,o1,l1,k1,q1,⟨cs,c1,c2⟩⟩,⟨v2,w2,p2,o2,l2,k2,q2,c3,v3,fun w hw=>(w3 w hw).1,k3,q3,fun l hl=>(l3 l hl).1,c4,fun w hw=>(w3 w hw).2,rr,fun l hl=>(l3 l hl).2,c5⟩⟩
end Go.Proofs.YtidniacddkalaaaGreatDoor
namespace Go.Proofs.YtidniacddkalaaaGreatDoor
open Go.AM
theorem Q6j:∀c:Code,BM.drawsC c=drawsC c:=by
 intro c
 induction c with
 |region id ops draw=>rfl
 |seq a b iha ihb=>simp only[BM.drawsC,drawsC,iha,ihb]
 |cond c a b iha ihb=>simp only[BM.drawsC,drawsC,iha,ihb]
 |rangeFunc g ps a b iha ihb=>simp only[BM.drawsC,drawsC,iha,ihb]
 |block i b ih=>simp only[BM.drawsC,drawsC,ih]
 |loop b ih=>simp only[BM.drawsC,drawsC,ih]
 |scope b ih=>simp only[BM.drawsC,drawsC,ih]
 |_=>rfl
theorem Zbm:∀c:Code,BM.flatC c=flatC c:=by
 intro c
 induction c with
 |seq a b iha ihb=>simp only[BM.flatC,flatC,iha,ihb]
 |cond c a b iha ihb=>simp only[BM.flatC,flatC,iha,ihb]
 |block i b ih=>simp only[BM.flatC,flatC,ih]
 |loop b ih=>simp only[BM.flatC,flatC,ih]
 |scope b ih=>simp only[BM.flatC,flatC,ih]
 |_=>rfl
end Go.Proofs.YtidniacddkalaaaGreatDoor
end
