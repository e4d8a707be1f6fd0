/- This file holds in one the texts E10, E11, F1, F4, F5, DG, DH; each says at its head what it proves. -/
import Derived.Test.YtidniacddkalaaaGreatDoorT25
import Derived.Test.YtidniacddkalaaaGreatDoorT29
import Derived.Test.YtidniacddkalaaaGreatDoorT30
import Derived.Test.YtidniacddkalaaaGreatDoorT32
import Derived.Test.YtidniacddkalaaaGreatDoorT33
set_option linter.unusedSimpArgs false
set_option linter.unusedVariables false
namespace Go.Proofs.YtidniacddkalaaaGreatDoor
section
set_option maxRecDepth 100000
open Go.AM
attribute [local irreducible] U W
theorem Qiy(bv wv sv:V)(d:Int)(hd:Fz Tryz.prog Qg 112 [.agg [bv,wv]] fun x=>x= .int .i64 d)(hf:frz (fun _ _=>none) depth (.agg [bv,wv])=some (.agg [bv,wv]))(sb:bv.scalar=true)(sw:wv.scalar=true)
 (space:List UInt8)(hs:Qf sv space)(epoch count:Int):
 Fz Tryz.prog Qg 67 [.agg [bv,wv,sv,.int .u32 epoch,.int .u32 count]] fun x=>x= .int .i64 (okE (Qad d (Xx space) epoch count)):=by
 refine Qw Tryz.func67 rfl ?_;have ss:=Ze hs;obtain⟨m,rfl,hm⟩:=hd.op (by rfl) (Qa hf rfl);have hm1:∀s H,_:=fun s H=>hm 67 0 s H rfl;obtain⟨m,rfl,hm⟩:=(Qri sv space hs).op (by rfl) (Qa (hs.frz _) rfl);have hm2:∀s H,_:=fun s H=>hm 67 0 s H rfl;simp only[okE_if] at hm2;simp only[wA,↓Qc,simprocAttr,Tryz.ntmps67,ta,wH,wB,sb,sw,ss,hm1,hm2,Xr]
 repeat' ((first|refine W.guardF ?_ ?_|refine W.guardT ?_ ?_|refine W.guardXF ?_ ?_|refine W.guardXT ?_ ?_|refine W.ite ?_ ?_|refine W.opsK1 (by kernel_rfl) ?_)<;>intro h<;>simp only[wA,↓Qc,simprocAttr,h,ta,wH,wB,sb,sw,ss,hm1,hm2,Xr])
 all_goals refine W.done (Qk.ret rfl rfl ?_)
 all_goals first|rfl|(simp only[okE,Qad, *,Jy,if_true,if_false];try rfl)
theorem Q70(F:AM.Frame)(pc:List V)(hw:Zb (fun f _=>Nat.ble 1 f) F=true)(hF:Bi F 1=some (.cells pc))(hpl:pc.length=19)(nid ng:Int)(h17:pc[17]?=some (.int .i64 nid))(h18:pc[18]?=some (.int .u32 ng))(l:Zt)(dv:V)(hd:Jn dv l.dead):
 CW Tryz.prog Qg 75 [.agg (Zu l dv),.ptr 0 1 0] [F,[],[]] fun r H=>r= .ret (.bool (Yu nid ng l))/\H=[F,[],[]]:=by
 refine Kb Tryz.func75 rfl ?_;have sc:=Ze hd;obtain⟨id,kind,owner,prev,txg,guid,key,root,dead⟩:=l;obtain⟨ra,rb,rc,rd,re⟩:=root;simp only[Zu];simp only[wA,↓Qc,simprocAttr,Tryz.ntmps75,ta,wH,wB,Zrs,Zs9,Zs0,Zti,sc,hF,h17,h18]
 repeat' ((first|refine W.guardF ?_ ?_|refine W.guardT ?_ ?_|refine W.guardXF ?_ ?_|refine W.guardXT ?_ ?_|refine W.ite ?_ ?_|refine W.opsK1 (by kernel_rfl) ?_)<;>intro h<;>simp only[wA,↓Qc,simprocAttr,h,ta,wH,sc,hF,h17,h18])
 all_goals refine W.done (End.ret (v:= .bool (Yu nid ng ⟨id,kind,owner,prev,txg,guid,key,⟨ra,rb,rc,rd,re⟩,dead⟩)) ?_ ⟨rfl,pop3 rfl hw⟩)
 all_goals simp only[Yu, *,Zsy,Zt8,Bool.true_or,Bool.or_true,Zs2,Zub]
 all_goals rfl
theorem Qyn(v:V)(l:List Zt)(cs:List V)(hc:LinesC cs l)(hv:Q0 13 v cs l.length)(hl:l.length<=9223372036854775807)(F:AM.Frame)(pc:List V)(hw:Zb (fun f _=>Nat.ble 1 f) F=true)(hF:Bi F 1=some (.cells pc))(hpl:pc.length=19)(nid ng:Int)(h17:pc[17]?=some (.int .i64 nid))(h18:pc[18]?=some (.int .u32 ng)):
 CW Tryz.prog Qg 50 [v,.func (.func 75) [] [.ptr 0 1 0]] [F,[]] fun r H=>r= .ret (.int .i64 (Zj (Yu nid ng) 0 l))/\H=[F,[]]:=by
 refine Kb Tryz.func50 rfl ?_;have len:=hv.len Tryz.underlying33;simp only[wA,↓Qc,simprocAttr,Tryz.ntmps50,ta,wH,wB,Zrs,Zs9,len];refine W.ul ?_;refine W.loopS (kt:=[0,1,7,8]) rfl (fun i:Nat=>Qu0 v (.func (.func 75) [] [.ptr 0 1 0]) (.int .i64 l.length) (.int .i64 i)) (fun _=>[F,[],[]]) (fun i=>i<=l.length/\Zj (Yu nid ng) i (l.drop i)=Zj (Yu nid ng) 0 l) (fun i=>l.length-i) ?_ 0 ⟨by omega,rfl⟩ rfl rfl;rintro i ⟨hi,hR⟩;simp only[Qu0];by_cases h:i<l.length
 . have c1:decide ((i:Int)<l.length)=true:=Zum (by omega);have at1:=hv.at (k:= .i64) Tryz.underlying33 Qnt (by decide) (i:=(i:Int)) (by omega) (by omega);obtain⟨dv,hdv,ld⟩:=hc.ld h;have ld1:∀g,ldV Tryz.prog 57 g (.iptr cs ((i:Int).toNat*13))=_:=ld;have w1:(IntKind.i64).wrap ((i:Int)+1)=((i+1:Nat):Int):=by rw[wrap_i64]<;>omega
   obtain⟨r,H',e1,e2,rfl⟩:=Q70 F pc hw hF hpl nid ng h17 h18 l[i] dv hdv;subst e2;have hcall:∀d,callOp Qg (Qp Tryz.prog Qg) 50 2 d 75 [.agg (Zu l[i] dv),.ptr 0 1 0] [F,[],[]]=_:=fun d=>K0 rfl rfl rfl e1;have hS:Zj (Yu nid ng) i (l.drop i)=if Yu nid ng l[i] then(i:Int) else Zj (Yu nid ng) (i+1) (l.drop (i+1)):=by rw[Zue h];rfl
   rw[hR] at hS;simp only[wA,↓Qc,simprocAttr,c1,at1,ld1,hcall,ta,wH,wB,Zs0,Zti];refine W.ite ?_ ?_<;>intro h2<;>simp only[wA,↓Qc,simprocAttr,ta,wH,w1]
   . refine W.done ?_;simp only[wA,↓Qc,simprocAttr];refine W.done (End.ret (v:= .int .i64 (Zj (Yu nid ng) 0 l)) ?_ ⟨rfl,pop2 rfl hw⟩);rw[hS,h2];rfl
   . refine W.done ⟨i+1,rfl,rfl,⟨by omega,?_⟩,by omega⟩;rw[hS,h2];rfl
 . have c1:decide ((i:Int)<l.length)=false:=Zun (by omega);simp only[wA,↓Qc,simprocAttr,c1];refine W.done ?_;simp only[wA,↓Qc,simprocAttr];refine W.done (End.ret (v:= .int .i64 (Zj (Yu nid ng) 0 l)) ?_ ⟨rfl,pop2 rfl hw⟩);rw[<-hR,Ztt (by omega)];rfl
theorem Quu(v:V)(l:List Zt)(cs:List V)(hc:LinesC cs l)(hv:Q0 13 v cs l.length)(hl:l.length<=9223372036854775807)(F:AM.Frame)(pc:List V)(hw:Zb (fun f _=>Nat.ble 1 f) F=true)(hF:Bi F 1=some (.cells pc))(hpl:pc.length=19)(nid ng:Int)(h17:pc[17]?=some (.int .i64 nid))(h18:pc[18]?=some (.int .u32 ng)):
 CW Tryz.prog Qg 74 [v,.func (.func 75) [] [.ptr 0 1 0]] [F] fun r H=>r= .ret (.bool (l.any (Yu nid ng)))/\H=[F]:=by
 refine Kb Tryz.func74 rfl ?_;obtain⟨r,H',e1,e2,rfl⟩:=Qyn v l cs hc hv hl F pc hw hF hpl nid ng h17 h18;subst e2;have hcall:∀d,callOp Qg (Qp Tryz.prog Qg) 74 1 d 50 [v,.func (.func 75) [] [.ptr 0 1 0]] [F,[]]=_:=fun d=>K0 rfl rfl rfl e1;simp only[wA,↓Qc,simprocAttr,Tryz.ntmps74,ta,wH,wB,Zrs,Zs9,Zs0,Zti,hcall,Qgs];exact W.done (End.ret (v:= .bool (l.any (Yu nid ng))) rfl ⟨rfl,pop1 rfl hw⟩)
theorem _root_.Go.AM.ChangesC.ld{ls:List Zf}{cs:List V}{i:Nat}(h:ChangesC cs ls)(hi:i<ls.length):∃dv,Qku dv ls[i].n/\(∀g,ldV Tryz.prog 59 g (.iptr cs (i*12))=some (.agg (Za ls[i] dv))):=by obtain⟨dv,h1,h2⟩:=h.at_ (Zra hi);refine⟨dv,h2,fun g=>?_⟩;show Qn Tryz.prog 59 cs (i*12)=_;have:=h.len;rw[rd59,if_pos (by omega),h1]
structure Zaf(bv wv sv mv lv kv ov cv:V)(d:Int)(space:List UInt8)(p:Qpc):Prop where
 dev:Fz Tryz.prog Qg 112 [.agg [bv,wv]] fun x=>x= .int .i64 d
 frz:frz (fun _ _=>none) depth (.agg [bv,wv])=some (.agg [bv,wv])
 frz0:∀g m,AM.frz g (m+10) bv=some bv/\AM.frz g (m+10) wv=some wv
 nr:∀q,bv.refs q=false/\wv.refs q=false
 sb:bv.scalar=true
 sw:wv.scalar=true
 space:Qf sv space
 own:Ke mv p.own
 lines:Qij lv p.lines
 keys:Kt kv p.keys
 loaded:Kt ov p.loaded
 changes:Qmr cv p.changes
 fit:p.own.length<=9223372036854775807/\p.lines.length<=9223372036854775807/\p.changes.length<=9223372036854775807/\p.keys.length<=9223372036854775807/\p.loaded.length<=9223372036854775807/\(∀k∈p.keys,k.length<=9223372036854775807)/\(∀k∈p.loaded,k.length<=9223372036854775807)
theorem Qnb(a:Int):Fz Tryz.prog Qg 135 [.int .i64 a] fun x=>x= .bool (Qh8 a):=by
 refine Qw Tryz.func135 rfl ?_;have cv:∀g,convertV Tryz.prog g 3 160 (.int .i64 a)=some (.val (.int .u64 ((IntKind.u64).wrap a)) none):=fun g=>by simp only[convertV,Tryz.underlying3,Tryz.underlying160]
 simp only[wA,↓Qc,simprocAttr,Tryz.ntmps135,cv];exact W.done (Qk.ret rfl rfl rfl)
theorem Qhz(bv wv:V)(bl:List (List UInt8))(wl:List (Int×List UInt8))(hb:Kt bv bl)(hw:Qa9 wv wl)(b1:bl.length<=9223372036854775807)(w1:wl.length<=9223372036854775807):
 Fz Tryz.prog Qg 112 [.agg [bv,wv]] fun x=>x= .int .i64 (okE (B2 bl wl)):=by
 refine Fz.of_cw ?_;refine(?_:CW Tryz.prog Qg 112 [.agg [bv,wv]] [] fun x _=>x= .ret (.int .i64 (okE (B2 bl wl)))).mono (fun r H' h=>⟨_,h,_,rfl,rfl⟩);refine Kb Tryz.func112 rfl ?_;obtain⟨bcs,hbc,hbv⟩:=hb;obtain⟨wcs,hwc,hwv⟩:=hw;have lb:=hbv.len Tryz.underlying22;have lw:=hwv.len Tryz.underlying23;have bsc:bv.scalar=true:=Ze hbv;have wsc:wv.scalar=true:=Ze hwv;generalize hok:(((bl.length:Int)==256)&&decide ((wl.length:Int)<=4096))=ok0;have ldr:∀i:Nat,(h:i<bl.length)->∃v,Qf v bl[i]/\∀g,ldV Tryz.prog 26 g (.iptr bcs ((i:Int).toNat*1))=some v:=fun i hi=>by
  obtain⟨v,h1,h2⟩:=hbc.at_ hi;refine⟨v,h2,fun g=>?_⟩;have e:(i:Int).toNat*1=i:=by omega
  rw[e];show Qn Tryz.prog 26 bcs i=_;rw[rd26,h1]
 cases hc1:((bl.length:Int)==256)<;>cases hc2:decide ((wl.length:Int)<=4096)
 all_goals
  have h00:=hok;rw[hc1,hc2] at h00;simp only[wA,↓Qc,simprocAttr,Tryz.ntmps112,ta,wH,wB,wsc,bsc,lw,lb,hc1,hc2];refine W.ul ?_;refine W.loopS (kt:=[1,3,19,20,21]) rfl (fun i:Nat=>Qif (.ptr 0 1 0) (.bool (Qk0 ok0 Qa1 bl i)) bv (.int .i64 bl.length) (.int .i64 i)) (fun i=>[[(1,.cells [bv,wv])]]) (fun i=>i<=bl.length) (fun i=>bl.length-i) ?_ 0 (Zt2 _) (by rw[Qr2,<-h00];rfl) rfl;rintro i hi;simp only[Qif];by_cases h:i<bl.length
  . have c1:decide ((i:Int)<bl.length)=true:=Zum (by omega);have w1:(IntKind.i64).wrap ((i:Int)+1)=((i+1:Nat):Int):=by rw[wrap_i64]<;>omega
    obtain⟨v,hv,hf⟩:=ldr i h;have lv:=hv.len Tryz.underlying26;have vs:=Ze hv;have at1:=hbv.at (k:= .i64) Tryz.underlying22 Qew (by decide) (i:=(i:Int)) (by omega) (by omega);have hn:=Qsy ok0 Qa1 bl i h;cases hb:Qk0 ok0 Qa1 bl i
    all_goals
     rw[hb] at hn;simp only[wA,↓Qc,simprocAttr,c1,at1,hf,ta,w1,lv,vs];exact W.done ⟨i+1,by rw[hn];rfl,rfl,by omega,by omega⟩
  . have c1:decide ((i:Int)<bl.length)=false:=Zun (by omega);have hacc:=Qxd ok0 Qa1 bl i (by omega);generalize Qk0 ok0 Qa1 bl i=ok1 at*;simp only[wA,↓Qc,simprocAttr,c1];refine W.done ?_;simp only[wA,↓Qc,simprocAttr,ta,wH,wB,wsc,lw];refine W.ul ?_;refine W.loop (fun(j:Nat) t H=>∃F:AM.Frame,Yf [3,33,34,35] t 0=Qd4 (.bool (Qk0 ok1 Qfm wl j)) wv (.int .i64 wl.length) (.int .i64 j)/\j<=wl.length/\H=[F]/\(F=[(1,.cells [bv,wv])]\/∃x,F=[(1,.cells [bv,wv]),(7,.cells x)])) (fun j=>wl.length-j) ?_ 0 ⟨_,by rw[Qr2];rfl,Zt2 _,rfl,.inl rfl⟩;rintro j t H ⟨F,ht,hj,rfl,hF⟩;have hd:([F]:Heap).modify 0 (Jb fun s=>[7].contains s)=[[(1,.cells [bv,wv])]]:=by
     rcases hF with rfl|⟨x,rfl⟩<;>rfl
    have wvr:wv.refs (fun f s=>f==0&&[7].contains s)=false:=hwv.noRefs _;have bvr:bv.refs (fun f s=>f==0&&[7].contains s)=false:=hbv.noRefs _;refine⟨_,_,Jh (kt:=[3,33,34,35]) (ds:=[7]) rfl ?_ ?_,?_⟩
    . rw[ht];simp only[Qd4,Qi,V.refs,wvr];simp
    . rw[hd];simp only[Qz,Zb,O.refs,Qi,V.refs,wvr,bvr];simp
    rw[ht,hd];simp only[Qd4];by_cases h2:j<wl.length
    . have c2:decide ((j:Int)<wl.length)=true:=Zum (by omega);have w2:(IntKind.i64).wrap ((j:Int)+1)=((j+1:Nat):Int):=by rw[wrap_i64]<;>omega
      obtain⟨e1,v,e2,hv⟩:=hwc.at_ h2;have lv:=hv.len Tryz.underlying26;have vs:=Ze hv;have at1:=hwv.at (k:= .i64) Tryz.underlying23 Qjg (by decide) (i:=(j:Int)) (by omega) (by omega);have ldw:∀g,ldV Tryz.prog 112 g (.iptr wcs ((j:Int).toNat*2))=some (.agg [.int .i64 wl[j].1,v]):=fun g=>by
       have e:(j:Int).toNat*2=2*j:=by omega
       have hl:=hwc.len;rw[e];show Qn Tryz.prog 112 wcs (2*j)=_;rw[Q32,if_pos (by omega)];have d1:wcs.drop (2*j)=V.int .i64 wl[j].1::v::wcs.drop (2*j+1+1):=by rw[Zue (by omega:2*j<wcs.length),Zue (by omega:2*j+1<wcs.length)];rw[Zra (by omega)] at e1 e2;rw[Option.some.inj e1,Option.some.inj e2]
       rw[d1];rfl
      obtain⟨m,rfl,hm⟩:=(Qnb wl[j].1).op (by rfl) rfl;have hm' :∀s H,_:=fun s H=>hm 112 0 s H rfl;have hn:=Qsy ok1 Qfm wl j h2;cases hb:Qk0 ok1 Qfm wl j<;>cases hp:Qh8 wl[j].1
      all_goals
       rw[hb] at hn;simp only[Qfm,hp] at hn;rw[hp] at hm';simp only[wA,↓Qc,simprocAttr,c2,at1,ldw,ta,wH,wB,w2,hm',lv,vs];exact W.done ⟨j+1,⟨_,by rw[hn];rfl,by omega,rfl,.inr ⟨_,rfl⟩⟩,by omega⟩
    . have c2:decide ((j:Int)<wl.length)=false:=Zun (by omega);have hacc2:=Qxd ok1 Qfm wl j (by omega);have hfin:B2 bl wl=Qk0 ok1 Qfm wl j:=by
       rw[hacc2,hacc,<-hok];rfl
      rw[hfin];generalize Qk0 ok1 Qfm wl j=ok2 at*;simp only[wA,↓Qc,simprocAttr,c2];refine W.done ?_;cases ok2
      all_goals
       simp only[wA,↓Qc,simprocAttr];exact W.done (End.ret rfl rfl)
theorem Qo2(L:List (Int×V)):∀(seen:List Nat) (rv:List V) (v:V),v∈Z7 L seen rv->v∈rv\/∃p∈L,p.2=v
 |[],rv,v,h=> .inl h
 |b::seen,rv,v,h=>by
  have h' :v∈Z7 L seen (Qbf L rv b):=h;rcases Qo2 L seen _ v h' with h1|h1
  . unfold Qbf at h1;split at h1
    . rename_i k w hb;rcases List.mem_or_eq_of_mem_set h1 with h2|h2
      . exact .inl h2
      . exact .inr ⟨_,Zt1 hb,h2.symm⟩
    . exact .inl h1
  . exact .inr h1
theorem Bw(l:List UInt8):(Qb l).all Qje=true:=by rw[Zr2];intro x hx;simp only[Qb,Zr3] at hx;obtain⟨b,_,rfl⟩:=hx;rfl
theorem Qlr{l:List UInt8}(h:l.length=256):Ju (Qb l):=⟨by rw[Q8,h],Bw l⟩
theorem Qcw{v:V}{l:List UInt8}(h:Qf v l)(hl:l.length=256):∃f,v= .iS (Qb l) 256 f:=by
 obtain⟨_,⟨rfl,h0⟩|⟨f,rfl⟩⟩:=h
 . omega
 . exact⟨f,by rw[hl]⟩
def Qg1(l:List (List UInt8)):V:= .iS (l.map fun r=> .iS (Qb r) 256 true) 256 false
theorem Q8w{bv wv:V}{bl:List (List UInt8)}{wl:List (Int×List UInt8)}(hb:Kt bv bl)(hw:Qa9 wv wl)(w0:∀w∈wl,-9223372036854775808<=w.1/\w.1<=9223372036854775807)(ok:B2 bl wl=true):
 Fz Tryz.prog Qg 137 [.agg [bv,wv],.func (.func 138) [] []] fun x=>∃rows:List (List UInt8),rows.length=256/\(∀r∈rows,r.length=256)/\x= .agg [Qg1 rows,.nS]:=by
 simp only[B2,Zr1,Zr2,beq_iff_eq,decide_eq_true_eq] at ok;obtain⟨⟨⟨k1,k2⟩,k3⟩,k4⟩:=ok;obtain⟨bcs,hbc,hbv⟩:=hb;obtain⟨wcs,hwc,hwv⟩:=hw;have hbl:=hbc.len;obtain⟨_,⟨rfl,h0⟩|⟨fl,rfl⟩⟩:=hbv
 . omega
 have k1' :bl.length=256:=by omega
 have hr3:∀b∈bl,b.length=256:=fun b h=>by have:=k3 b h;simp only[Qa1,beq_iff_eq] at this;omega
 have hr:∀i,i<256->∃f,bcs[i]?=some (.iS (Qb (bl.getD i [])) 256 f):=fun i hi=>by obtain⟨v,h1,h2⟩:=hbc.at_ (i:=i) (by omega);obtain⟨f,rfl⟩:=Qcw h2 (hr3 _ (Ztp _));refine⟨f,?_⟩;rw[h1,Zug,Zra (by omega)];rfl
 have hwt:∀j,(h:j<wl.length)->0<=wl[j].1/\wl[j].1<256/\wl[j].2.length=256:=fun j h=>by have h1:=k4 _ (Ztp h);have h2:=w0 _ (Ztp h);simp only[Qfm,Qh8,Qa1,Zr1,decide_eq_true_eq,beq_iff_eq] at h1;obtain⟨h3,h4⟩:=h1;simp only[IntKind.wrap,IntKind.bits,IntKind.signed,Zt8,Zre,if_false] at h3;refine⟨?_,?_,by omega⟩<;>omega
 generalize hA:(fun j:Nat=>(wl.getD j (0,[])).1)=a;generalize hD:(fun j:Nat=>wcs.getD (2*j+1) .bad)=dv;have ha:∀j,(h:j<wl.length)->a j=wl[j].1:=fun j h=>by rw[<-hA];simp only[Zug,Zra h,Zs3]
 have hdv:∀j,(h:j<wl.length)->∃f,dv j= .iS (Qb wl[j].2) 256 f:=fun j h=>by obtain⟨_,v,h1,h2⟩:=hwc.at_ h;obtain⟨f,rfl⟩:=Qcw h2 (hwt j h).2.2;refine⟨f,?_⟩;rw[<-hD];simp only[Zug,h1,Zs3]
 generalize hS:Z7 (Xg a dv wl.length) (List.range (Xg a dv wl.length).length) bcs=S;have hSl:S.length=256:=by rw[<-hS,B3,hbl,k1']
 have hSm:∀v∈S,∃l:List UInt8,∃f,l.length=256/\v= .iS (Qb l) 256 f:=fun v hv=>by
  rw[<-hS] at hv;rcases Qo2 _ _ _ _ hv with h|⟨p,hp,rfl⟩
  . obtain⟨i,hi⟩:=Zsn.1 h;have hi' :i<256:=by rw[<-k1',<-hbl];exact(Zsm.1 hi).1
    obtain⟨f,hf⟩:=hr i hi';rw[hi] at hf;refine⟨_,f,?_,Option.some.inj hf⟩;rw[Zug,Zra (by omega)];exact hr3 _ (Ztp _)
  . obtain⟨j,hj,e⟩:=Qlz a dv _ p hp;obtain⟨f,hf⟩:=hdv j hj;exact⟨_,f,(hwt j hj).2.2,by rw[e,hf]⟩
 have hrows:∃rows:List (List UInt8),rows.length=256/\(∀r∈rows,r.length=256)/\∀i,i<256->∃f,S[i]?=some (.iS (Qb (rows.getD i [])) 256 f):=by
  clear hS;have key:∀S:List V,(∀v∈S,∃l:List UInt8,∃f,l.length=256/\v= .iS (Qb l) 256 f)->∃rows:List (List UInt8),rows.length=S.length/\(∀r∈rows,r.length=256)/\∀i,i<S.length->∃f,S[i]?=some (.iS (Qb (rows.getD i [])) 256 f):=by
   intro S
   induction S with
   |nil=>intro _;exact⟨[],rfl,(fun _ h=>by cases h),fun i h=>absurd h (Nat.not_lt_zero i)⟩
   |cons v S ih=>
    intro h;obtain⟨rows,e1,e2,e3⟩:=ih fun w hw=>h w (Zrz _ hw);obtain⟨l,f,e4,rfl⟩:=h v (by simp);refine⟨l::rows,by simp[e1],Zuh.2 ⟨e4,e2⟩,fun i hi=>?_⟩;cases i with
    |zero=>exact⟨f,rfl⟩
    |succ i=>
     obtain⟨g,hg⟩:=e3 i (by simpa using hi);exact⟨g,by simpa using hg⟩
  obtain⟨rows,e1,e2,e3⟩:=key S hSm;exact⟨rows,by rw[e1,hSl],e2,fun i hi=>e3 i (by omega)⟩
 obtain⟨rows,r1,r2,r3⟩:=hrows;have hrow:∀i,i<256->Ju (Qb (rows.getD i [])):=fun i hi=>by refine Qlr ?_;rw[Zug,Zra (by omega)];exact r2 _ (Ztp _)
 rw[k1'] at*;refine(Q4i bcs fl (fun i=>Qb (bl.getD i [])) (by omega) hr (fun i hi=>Qlr ?_) wv wcs wl.length hwv (by omega) a dv (fun j hj=>?_) (fun j hj=>?_) (fun j hj=>?_) (fun i=>Qb (rows.getD i [])) (by rw[hS];exact r3) hrow (.func (.func 138) [] []) (.inl rfl) (fun p=>rfl)).mono ?_
 . rw[Zug,Zra (by omega)];exact hr3 _ (Ztp _)
 . obtain⟨e1,v,e2,_⟩:=hwc.at_ hj;refine⟨by rw[e1,ha j hj],?_⟩;rw[<-hD];simp only[Zug,e2,Zs3]
 . rw[ha j hj];exact⟨(hwt j hj).1,(hwt j hj).2.1⟩
 . obtain⟨f,hf⟩:=hdv j hj;exact⟨_,f,hf,Qlr (hwt j hj).2.2⟩
 . rintro x rfl;refine⟨rows,r1,r2,?_⟩;have e:((List.range 256).map fun j=>V.iS (Qb (rows.getD j [])) 256 true)=rows.map fun r=> .iS (Qb r) 256 true:=by
    apply Zs7;intro i;by_cases hi:i<256
    . simp only[Zt4,List.getElem?_range hi,Zrb,Zug,Zra (by omega:i<rows.length),Zs3]
    . rw[Zrd (by simp;omega),Zrd (by simp;omega)]
   simp only[Q1y,Qg1,if_true,e]
theorem Qf0{esz n:Nat}{v:V}{cells:List V}(h:Q0 esz v cells n):v.pure=true:=by obtain⟨_,⟨rfl,_⟩|⟨f,rfl⟩⟩:=h<;>rfl
theorem Qox(rows:List (List UInt8))(h:rows.length=256):Q0 1 (Qg1 rows) (rows.map fun r=> .iS (Qb r) 256 true) 256:=⟨by simp[h],.inr ⟨false,rfl⟩⟩
theorem Jc{g:Get}{l l' :List V}(h:Qt (AM.frz g 11) l=some l'):AM.frz g depth (.tuple l)=some (.tuple l'):=by show Option.map V.tuple (Qt (AM.frz g 11) l)=_;rw[h];rfl
theorem Qay{g:Get}{n:Nat}{l l' :List V}(h:Qt (AM.frz g n) l=some l'):AM.frz g (n+1) (.agg l)=some (.agg l'):=by show Option.map V.agg (Qt (AM.frz g n) l)=_;rw[h];rfl
theorem Qdp{bv wv:V}{bl:List (List UInt8)}{wl:List (Int×List UInt8)}(hb:Kt bv bl)(hw:Qa9 wv wl)(g:Get):frz g depth (.agg [bv,wv])=some (.agg [bv,wv]):=by obtain⟨bcs,hbc,hbv⟩:=hb;obtain⟨wcs,hwc,hwv⟩:=hw;show Option.map V.agg (Qt (AM.frz _ 11) [bv,wv])=_;rw[Qa (hbv.frz 10) (Qa (hwv.frz 10) rfl)];rfl
theorem Qnr{bv wv:V}{bl:List (List UInt8)}{wl:List (Int×List UInt8)}(hb:Kt bv bl)(hw:Qa9 wv wl)(g:Get):frz g depth (.func (.func 136) [] [.iptr [bv,wv] 0])=some (.func (.func 136) [] [.iptr [bv,wv] 0]):=rfl
theorem Za8{bv wv:V}{bl:List (List UInt8)}{wl:List (Int×List UInt8)}(hb:Kt bv bl)(hw:Qa9 wv wl)(w0:∀w∈wl,-9223372036854775808<=w.1/\w.1<=9223372036854775807)(ok:B2 bl wl=true):
 Fz Tryz.prog Qg 136 [.iptr [bv,wv] 0] fun x=>∃rows:List (List UInt8),rows.length=256/\(∀r∈rows,r.length=256)/\x= .agg [Qg1 rows,.nS]:=by
 refine Qw Tryz.func136 rfl ?_;have fd:=Qdp hb hw (fun _ _=>none);obtain⟨m,⟨rows,r1,r2,rfl⟩,hm⟩:=(Q8w hb hw w0 ok).op (by rfl) (Qa fd (Qa rfl rfl));obtain⟨bcs,hbc,hbv⟩:=hb;obtain⟨wcs,hwc,hwv⟩:=hw;have sb:=Ze hbv;have sw:=Ze hwv;have hm1:∀s H,_:=fun s H=>hm 136 0 s H rfl;have sr:(Qg1 rows).scalar=true:=rfl;simp only[wA,↓Qc,simprocAttr,Tryz.ntmps136,ta,wH,wB,sb,sw,hm1,sr];exact W.done (Qk.ret (v:= .agg [Qg1 rows,.nS]) rfl (Qay (Qa ((Qox rows r1).frz 10) (Qa rfl rfl))) ⟨rows,r1,r2,rfl⟩)
theorem Q00{bv wv:V}{bl:List (List UInt8)}{wl:List (Int×List UInt8)}(hb:Kt bv bl)(hw:Qa9 wv wl)(b1:bl.length<=K6)(b2:wl.length<=K6)(w0:∀w∈wl,-9223372036854775808<=w.1/\w.1<=9223372036854775807)(is:Bool):
 Fz Tryz.prog Qg 134 [.agg [bv,wv],.bool is,.func (.func 136) [] [.iptr [bv,wv] 0]] fun x=>∃(d:V) (e:Int),x= .tuple [.agg [d,.nS],.int .i64 e]/\((e=0/\is=true/\∃rows:List (List UInt8),rows.length=256/\(∀r∈rows,r.length=256)/\d=Qg1 rows)\/(e≠0/\d= .nS)):=by
 refine Qw Tryz.func134 rfl ?_;have fd:=Qdp hb hw (fun _ _=>none);obtain⟨m,rfl,hm⟩:=(Qhz bv wv bl wl hb hw b1 b2).op (by rfl) (Qa fd rfl);have hm1:∀s H,_:=fun s H=>hm 134 0 s H rfl;have hb' :=hb;have hw' :=hw;obtain⟨bcs,hbc,hbv⟩:=hb';obtain⟨wcs,hwc,hwv⟩:=hw';have sb:=Ze hbv;have sw:=Ze hwv;cases ok:B2 bl wl
 . rw[ok] at hm1;simp only[okE] at hm1;simp only[wA,↓Qc,simprocAttr,Tryz.ntmps134,ta,wH,wB,sb,sw,hm1];exact W.done (Qk.ret (v:= .tuple [.agg [.nS,.nS],.int .i64 8]) rfl rfl ⟨.nS,8,rfl,.inr ⟨by decide,rfl⟩⟩)
 . rw[ok] at hm1;simp only[okE] at hm1;cases is
   . simp only[wA,↓Qc,simprocAttr,Tryz.ntmps134,ta,wH,wB,sb,sw,hm1];exact W.done (Qk.ret (v:= .tuple [.agg [.nS,.nS],.int .i64 2]) rfl rfl ⟨.nS,2,rfl,.inr ⟨by decide,rfl⟩⟩)
   . obtain⟨m,⟨rows,r1,r2,rfl⟩,hm⟩:=(Za8 hb hw w0 ok).op (by rfl) (Qa (by
      have e:=Qnr hb hw (fun _ _=>none)
      first|rfl|(simp only[depth,frz,Qt,hbv.frz,hwv.frz,Zrb])) rfl)
     have hm2:∀s H,_:=fun s H=>hm 134 0 s H rfl;have sr:(Qg1 rows).scalar=true:=rfl;simp only[wA,↓Qc,simprocAttr,Tryz.ntmps134,ta,wH,wB,sb,sw,hm1,hm2,sr];exact W.done (Qk.ret (v:= .tuple [.agg [Qg1 rows,.nS],.int .i64 0]) rfl (Jc (Qa (Qay (Qa ((Qox rows r1).frz 9) (Qa rfl rfl))) (Qa rfl rfl))) ⟨Qg1 rows,0,rfl,.inl ⟨rfl,by first|exact⟨rfl,rows,r1,r2,rfl⟩|exact⟨rows,r1,r2,rfl⟩⟩⟩)
def Qgl(x:V):Prop:=∃(v:V) (e:Int),x= .tuple [v,.int .i64 e]/\((e=0/\∃l:List UInt8,Qf v l/\l.length=256)\/(e≠0/\v= .nS))
theorem Q1a{bv wv:V}{bl:List (List UInt8)}{wl:List (Int×List UInt8)}(hb:Kt bv bl)(hw:Qa9 wv wl)(b1:bl.length<=K6)(b2:wl.length<=K6)(w0:∀w∈wl,-9223372036854775808<=w.1/\w.1<=9223372036854775807)(a:Int)(ha: -9223372036854775808<=a/\a<=9223372036854775807):
 Fz Tryz.prog Qg 98 [.agg [bv,wv],.int .i64 a] Qgl:=by
 refine Qw Tryz.func98 rfl ?_;have fd:=Qdp hb hw (fun _ _=>none);obtain⟨m,rfl,hm⟩:=(Qnb a).op (by rfl) rfl;have hm1:∀s H,_:=fun s H=>hm 98 0 s H rfl;obtain⟨m,⟨d,e,rfl,hr⟩,hm⟩:=(Q00 hb hw b1 b2 w0 (Qh8 a)).op (by rfl) (Qa fd (Qa rfl (Qa (Qnr hb hw _) rfl)));have hm2:∀s H,_:=fun s H=>hm 98 0 s H rfl;obtain⟨bcs,hbc,hbv⟩:=hb;obtain⟨wcs,hwc,hwv⟩:=hw;have sb:=Ze hbv;have sw:=Ze hwv;have pb:=Qf0 hbv;have pw:=Qf0 hwv;rcases hr with⟨rfl,his,rows,r1,r2,rfl⟩|⟨he,rfl⟩
 . have sr:(Qg1 rows).scalar=true:=rfl;simp only[wA,↓Qc,simprocAttr,Tryz.ntmps98,ta,wH,wB,sb,sw,pb,pw,hm1,hm2,sr];refine W.opsT (by kernel_rfl) ?_;have hi:0<=a/\a<256:=by
    simp only[Qh8,decide_eq_true_eq,IntKind.wrap,IntKind.bits,IntKind.signed,Zt8,Zre,if_false] at his;omega
   have rsl:=Qox rows r1;have at1:=rsl.at (k:= .i64) Tryz.underlying22 Qew (by decide) (i:=a) (by omega) (by omega);have lt:a.toNat<rows.length:=by omega
   have ld:(rows.map fun r=>V.iS (Qb r) 256 true)[a.toNat]?=some (.iS (Qb rows[a.toNat]) 256 true):=by rw[Zt4,Zra lt];rfl
   have rl:rows[a.toNat].length=256:=r2 _ (Ztp lt);generalize rows[a.toNat]=r at*;have hbr:Qf (.iS (Qb r) 256 true) r:=by have:=Qf.mk r true;rwa[rl] at this
   simp only[wA,↓Qc,simprocAttr,ta,wH,wB,at1,ld];exact W.done (Qk.ret (v:= .tuple [.iS (Qb r) 256 true,.int .i64 0]) rfl (Jc (Qa (hbr.frz 10) (Qa rfl rfl))) ⟨_,0,rfl,.inl ⟨rfl,r,hbr,rl⟩⟩)
 . have c1:(e !=0)=true:=by simpa using he
   simp only[wA,↓Qc,simprocAttr,Tryz.ntmps98,ta,wH,wB,sb,sw,pb,pw,hm1,hm2];refine W.opsT (by kernel_rfl) ?_;simp only[wA,↓Qc,simprocAttr,ta,wH,wB,c1];exact W.done (Qk.ret (v:= .tuple [.nS,.int .i64 e]) rfl rfl ⟨.nS,e,rfl,.inr ⟨he,rfl⟩⟩)
theorem Q77(v:V)(l:List UInt8)(hv:Qf v l):Fz Tryz.prog Qg 203 [v] fun r=>r= .func (.func 232) [] [.iptr [v] 0]:=by
 refine Qw Tryz.func203 rfl ?_;have c1:=hv.cells1;simp only[wA,↓Qc,simprocAttr,Tryz.ntmps203,ta,wH,wB,c1];have hf:frz (Qd [[(1,O.cells [v])]]) depth (.func (.func 232) [] [.ptr 0 1 0])=some (.func (.func 232) [] [.iptr [v] 0]):=by
  have e:=hv.frz (g:=Qd [[(1,O.cells [v])]]) 9;have e1:frz (Qd [[(1,O.cells [v])]]) 11 (.ptr 0 1 0)=some (.iptr [v] 0):=by show(Qt (frz (Qd [[(1,O.cells [v])]]) 10) [v]).map _=_;rw[Qa e rfl];rfl
  show(match Qt (frz _ 11) [],Qt (frz _ 11) [.ptr 0 1 0] with|some a,some b=>some (V.func _ a b)|_,_=>none)=_;rw[Qa e1 rfl];rfl
 exact W.done (Qk.ret (v:= .func (.func 232) [] [.ptr 0 1 0]) rfl hf rfl)
theorem Q89(v:V)(l:List UInt8)(hv:Qf v l)(hl:l.length<=281474976710656)(fo so:Nat)(HS:Nat->Heap)(hlen:∀i,(HS i).length=(HS l.length).length)(hw:WF (HS 0))
 (step:∀i (h:i<l.length),Qp Tryz.prog Qg none [.yield fo so,.int .i64 i,.int .u8 l[i].toNat] (HS (i+1)++[[]])=some (.ret (.bool true),HS i++[[]])):
 CW Tryz.prog Qg 232 [.yield fo so,.iptr [v] 0] (HS l.length) fun r H' =>r= .ret (.tuple [])/\H' =HS 0:=by
 refine Kb Tryz.func232 rfl ?_;have len:=hv.len Tryz.underlying26;have w0:(IntKind.i64).wrap ((l.length:Int)-1)=(l.length:Int)-1:=by rw[wrap_i64]<;>omega
 simp only[wA,↓Qc,simprocAttr,Tryz.ntmps232,ta,wH,wB,len,w0];refine W.ul ?_;refine W.loopS (kt:=[0,1,3]) rfl (fun i:Nat=>Que (.yield fo so) (.iptr [v] 0) (.int .i64 ((i:Int)-1))) (fun i=>HS i++[[]]) (fun i=>i<=l.length) (fun i=>i) ?_ l.length (Zrf _) rfl rfl;intro j hj;cases j with
 |zero=>
  have c1:decide ((((0:Nat):Int)-1)>=0)=false:=rfl;simp only[Que];simp only[wA,↓Qc,simprocAttr,c1];refine W.done ?_;simp only[wA,↓Qc,simprocAttr];refine W.done (End.normal (v:= .tuple []) rfl ⟨rfl,?_⟩);have:=Zl (H:=HS 0) (G:=[[]]) (v:= .tuple []) rfl hw;rw[hlen] at this;exact this
 |succ i=>
  have e:((i+1:Nat):Int)-1=i:=by omega
  have c1:decide ((i:Int)>=0)=true:=by simp
  have at1:=hv.at (k:= .i64) Tryz.underlying26 sz5 (by decide) (i:=(i:Int)) (by omega) (by omega);have get1:(Qb l)[(i:Int).toNat*1]?=some (.int .u8 l[i].toNat):=by have:i<l.length:=hj;simp[Qea,this]
  have get1' :(Qb l)[(i:Int).toNat]?=some (.int .u8 l[i].toNat):=by simpa using get1
  have st:=step i hj;have w1:(IntKind.i64).wrap ((i:Int)-1)=(i:Int)-1:=by rw[wrap_i64]<;>omega
  simp only[Que,e];simp only[wA,↓Qc,simprocAttr,ta,wH,wB,c1,len,at1,get1,get1',rd5,st,Z6,Qdt,w1];exact W.done ⟨i,rfl,rfl,by omega,by omega⟩
theorem Qqy(k:Nat):Fz Tryz.prog Qg 122 [.int .i64 k] fun r=>r= .bool (decide (0<k)&&decide (k<=4)):=by
 refine Qw Tryz.func122 rfl ?_;have c1:decide ((k:Int)>0)=decide (0<k):=by simp
 have c2:decide ((k:Int)<=4)=decide (k<=4):=by simp;omega
 simp only[wA,↓Qc,simprocAttr,Tryz.ntmps122,ta,wH,wB,c1,c2];cases h:decide (0<k) with
 |true=>
  simp only[wA,↓Qc,simprocAttr];exact W.done (Qk.ret rfl rfl (by simp;omega))
 |false=>
  simp only[wA,↓Qc,simprocAttr];exact W.done (Qk.ret rfl rfl (by simp))
def Yv:List UInt8->Nat
 |[]=>0
 |b::r=>b.toNat+256*Yv r
theorem Qlb:∀l:List UInt8,Yv l<256^l.length
 |[]=>by decide
 |b::r=>by
  have:=Qlb r;have hb:=UInt8.toNat_lt b;simp only[Yv,Zrs,Nat.pow_succ];omega
def Q2m(l:List UInt8)(at_ k:Nat):Nat×Nat:=
 if !(decide (0<k)&&decide (k<=4))||decide (l.length<at_) then(0,2) else if l.length<at_+k then(0,8) else(Yv ((l.drop at_).take k),0)
theorem Q4n{n:Nat}(h:1<=n){s r f x:Nat}{T:List V}{G:AM.Heap}(hr:Qi (fun f _=>Nat.ble 1 f) T=false){o:AM.O}(ho:o.refs (fun f _=>Nat.ble 1 f)=false)(hG:G=[[]]\/G=[]):WF ([[(s,o),(r,.loop 0 none f x T)]]++G):=by
 have h1:Qz (fun f _=>Nat.ble 1 f) [[(s,o),(r,.loop 0 none f x T)]]=true:=by have h0:(O.loop 0 none f x T).refs (fun f _=>Nat.ble 1 f)=false:=hr;simp only[Qz,Zb,ho,h0];rfl
 have h2:WF [[(s,o),(r,O.loop 0 none f x T)]]:=h1;rcases hG with rfl|rfl
 . exact h2.app rfl
 . exact h2
theorem Q67(p:List UInt8)(n:Nat)(hn:Yv p<4294967296)(T:List V)(hT:T.length=43)(h8:T.getD 8 .bad= .ptr 0 8 0)(hr:Qi (fun f _=>Nat.ble 1 f) T=false)(i:Nat)(hi:i<p.length)(hnl:Yv (p.drop i)<4294967296):
 Qp Tryz.prog Qg none [.yield 0 1000009,.int .i64 i,.int .u8 p[i].toNat] ([[(8,.cells [.int .i64 (Yv (p.drop (i+1)))]),(1000009,.loop 0 none 176 9 T)]]++[[]])=some (.ret (.bool true),[[(8,.cells [.int .i64 (Yv (p.drop i))]),(1000009,.loop 0 none 176 9 T)]]++[[]]):=by
 obtain⟨r,H3,h1,rfl,rfl⟩:=B8 (P:=Tryz.prog) (pol:=Qg) (fo:=0) (so:=1000009) (args:=[.int .i64 i,.int .u8 p[i].toNat]) (H:=[[(8,.cells [.int .i64 (Yv (p.drop (i+1)))]),(1000009,.loop 0 none 176 9 T)],[]]) (p:=none) (fL:=176) (rid:=9) (t0:=T)
  (R:=fun r H3=>r= .ret (.bool true)/\H3=[[(8,.cells [.int .i64 (Yv (p.drop i))]),(1000009,.loop 0 none 176 9 T)],[]]) rfl (X9 Tryz.func176 rfl rfl) rfl (by
    have ed:p.drop i=p[i]::p.drop (i+1):=Zue hi;have en:Yv (p.drop i)=p[i].toNat+256*Yv (p.drop (i+1)):=by rw[ed];rfl
    change W (U _ _ _ _ _ _ _ .normal ((T.set 35 _).set 36 _) _) _;have hL:∀a b x y,((T.set a x).set b y).length=43:=fun a b x y=>by simp[hT]
    simp only[wA,↓Qc,simprocAttr,wH,wB,ta,Yo,Yq,Zs5,hT,h8,Nat.reduceBEq];refine W.done ⟨rfl,none,176,9,T,rfl,?_⟩;have nl:Yv (p.drop (i+1))<16777216:=by omega
    have hb:=UInt8.toNat_lt p[i];have w1:(IntKind.i64).wrap (256*(Yv (p.drop (i+1)):Int))=((256*Yv (p.drop (i+1)):Nat):Int):=by rw[wrap_i64]<;>omega
    have w2:(IntKind.i64).wrap (((256*Yv (p.drop (i+1)):Nat):Int)+(p[i].toNat:Int))=(Yv (p.drop i):Int):=by rw[wrap_i64]<;>omega
    have cv:∀g,convertV Tryz.prog g 5 3 (.int .u8 p[i].toNat)=some (.val (.int .i64 p[i].toNat) none):=fun g=>by
     simp only[convertV,Tryz.underlying3,Tryz.underlying5];have:(IntKind.i64).wrap (p[i].toNat:Int)=p[i].toNat:=by rw[wrap_i64]<;>omega
     simp only[this]
    simp only[wA,↓Qc,simprocAttr,wH,wB,ta,Yo,Yq,Zs5,hT,h8,Nat.reduceBEq,w1,w2,cv];refine W.done ⟨_,_,rfl,rfl,?_⟩
    exact Zl (H:=[[(8,.cells [.int .i64 (Yv (p.drop i))]),(1000009,.loop 0 none 176 9 T)],[]]) (G:=[[]]) rfl (Q4n (n:=1) (by omega) hr rfl (.inl rfl)))
 exact h1
theorem Q9q(w:V)(p:List UInt8)(hw:Qf w p)(hp:p.length<=4)(T:List V)(hT:T.length=43)(h8:T.getD 8 .bad= .ptr 0 8 0)(hr:Qi (fun f _=>Nat.ble 1 f) T=false):
 CW Tryz.prog Qg 232 [.yield 0 1000009,.iptr [w] 0] [[(8,.cells [.int .i64 0]),(1000009,.loop 0 none 176 9 T)]] fun r H' =>r= .ret (.tuple [])/\H' =[[(8,.cells [.int .i64 (Yv p)]),(1000009,.loop 0 none 176 9 T)]]:=by
 have lt:∀i,Yv (p.drop i)<4294967296:=fun i=>by have h1:=Qlb (p.drop i);have h2:256^(p.drop i).length<=256^4:=Nat.pow_le_pow_right (by decide) (by simp;omega);exact Zri h1 h2
 have:=Q89 w p hw (by omega) 0 1000009 (fun i=>[[(8,.cells [.int .i64 (Yv (p.drop i))]),(1000009,.loop 0 none 176 9 T)]]) (fun _=>rfl) (Q4n (n:=1) (G:=[]) (by omega) hr rfl (.inr rfl))
  (fun i hi=>Q67 p 0 (lt 0) T hT h8 hr i hi (lt i))
 have e:Yv (p.drop p.length)=0:=by rw[List.drop_length];rfl
 simp only[e] at this;exact this
def Qrs(n a k:Nat)(p:List UInt8):Nat×Nat:=
 if !(decide (0<k)&&decide (k<=4))||decide (n<a) then(0,2) else if n<a+k then(0,8) else(Yv p,0)
theorem get_sl(v:V)(cells:List V)(n:Nat)(hv:Q0 1 v cells n)(hl:n<=281474976710656)(a k:Nat)(ha:a<=281474976710656)(hk:k<=4294967296)(p:List UInt8)(hp:a+k<=n->k<=4->(cells.drop a).take k=Qb p):
 Fz Tryz.prog Qg 176 [v,.int .i64 a,.int .i64 k] fun r=>r= .tuple [.int .i64 (Qrs n a k p).1,.int .i64 (Qrs n a k p).2]:=by
 refine Qw Tryz.func176 rfl ?_;obtain⟨m,rfl,hm⟩:=(Qqy k).op (by rfl) rfl;have hm' :∀s H,_:=fun s H=>hm 176 0 s H rfl;have len:=hv.len Tryz.underlying26;have c0:decide ((a:Int)<0)=false:=by simp
 have c1:decide ((a:Int)>n)=decide (n<a):=by simp
 have w1:(IntKind.i64).wrap ((a:Int)+k)=((a+k:Nat):Int):=by rw[wrap_i64]<;>omega
 have c2:decide (((a+k:Nat):Int)>n)=decide (n<a+k):=by simp;omega
 generalize hs:(decide (0<k)&&decide (k<=4))=sz at*;simp only[wA,↓Qc,simprocAttr,Tryz.ntmps176,ta,wH,wB,hm',len];have err:∀(x:Nat) (T:List V),T.getD 6 .bad= .int .i64 0->T.getD 7 .bad= .int .i64 x->Qrs n a k p=(0,x)->Qk Tryz.prog Tryz.f176 (fun r=>r= .tuple [.int .i64 (Qrs n a k p).1,.int .i64 (Qrs n a k p).2]) .ret T [[]]:=by intro x T h1 h2 h3;refine Qk.ret (v:= .tuple [.int .i64 0,.int .i64 x]) ?_ rfl (by rw[h3];rfl);show(match Ks Tryz.prog T [[]] [.tmp 6,.tmp 7] with|some [v]=>some v|some vs=>some (V.tuple vs)|none=>none)=_;simp only[Ks,Jv,h1,h2]
 cases sz with
 |false=>
  simp only[wA,↓Qc,simprocAttr];refine W.done (err 2 _ rfl rfl ?_);simp[Qrs,hs]
 |true=>
  simp only[wA,↓Qc,simprocAttr,c0,c1,len];refine W.ite (fun h=>?_) (fun h=>?_)
  . simp only[wA,↓Qc,simprocAttr];refine W.done (err 2 _ rfl rfl ?_);simp only[decide_eq_true_eq] at h;simp[Qrs,hs,h]
  . have h' :¬n<a:=by simpa using h
    simp only[wA,↓Qc,simprocAttr,len,w1,c2];refine W.ite (fun h2=>?_) (fun h2=>?_)
    . simp only[wA,↓Qc,simprocAttr];refine W.done (err 8 _ rfl rfl ?_);simp only[decide_eq_true_eq] at h2;simp[Qrs,hs,h',h2]
    . have h2' :¬n<a+k:=by simpa using h2
      have hg:Qrs n a k p=(Yv p,0):=by simp[Qrs,hs,h',h2']
      rw[hg];have kl:k<=4:=by rw[Zr1,decide_eq_true_eq,decide_eq_true_eq] at hs;exact hs.2
      obtain⟨w,sl,hw0⟩:=hv.cut (P:=Tryz.prog) Tryz.underlying26 sz5 (some (a:Int)) (some ((a+k:Nat):Int)) (by simp) (by simp only[Zs3];omega) (by simp only[Zs3];omega);have e1:((some ((a+k:Nat):Int)).getD n).toNat-((some (a:Int)).getD 0).toNat=k:=by simp only[Zs3,Ztx];omega
      have e2:((some (a:Int)).getD 0).toNat*1=a:=by simp
      rw[e1,e2,Zsd,hp (by omega) kl] at hw0;simp only[Zrb] at sl;have pl:p.length=k:=by have:=hw0.1;rw[Q8] at this;omega
      have hw:Qf w p:=by unfold Qf;rw[pl];exact hw0
      obtain⟨m3,rfl,hm3⟩:=(Q77 w p hw).op (by rfl) (Qa (hw.frz _) rfl);have hm3' :∀s H,_:=fun s H=>hm3 176 0 s H rfl;simp only[wA,↓Qc,simprocAttr,wH,wB,ta,w1,sl,hm3'];refine W.rfunc (rid:=9) rfl rfl rfl ?_;refine(Q9q w p hw (by omega) _ rfl rfl ?_).mono ?_
      . simp only[Qi,V.refs,hv.noRefs,hw.noRefs];rfl
      rintro r H2 ⟨rfl,rfl⟩;refine⟨_,rfl,?_⟩;rw[Qbg (st:=0) (f:=176) (r:=9) rfl (by decide) (by simp only[Qi,V.refs,hv.noRefs,hw.noRefs];rfl) rfl];have hH:∀T,List.modify [[(8,O.cells [V.int .i64 (Yv p)]),(1000009,O.loop 0 none 176 9 T)]] 0 (Jb fun x=>[Qv 9].contains x)=[[(8,O.cells [V.int .i64 (Yv p)])]]:=fun T=>rfl;rw[hH];simp only[wA,↓Qc,simprocAttr,wH,wB,ta,Z6];exact W.done (Qk.ret (v:= .tuple [.int .i64 (Yv p),.int .i64 0]) rfl rfl rfl)
theorem Q8l(v:V)(l:List UInt8)(hv:Qf v l)(hl:l.length<=281474976710656)(a k:Nat)(ha:a<=281474976710656)(hk:k<=4294967296):
 Fz Tryz.prog Qg 176 [v,.int .i64 a,.int .i64 k] fun r=>r= .tuple [.int .i64 (Q2m l a k).1,.int .i64 (Q2m l a k).2]:=
 get_sl v (Qb l) l.length hv hl a k ha hk ((l.drop a).take k) (fun _ _=>by simp[Qb])
theorem Qsn(v:V)(l:List UInt8)(hv:Qf v l)(hl:l.length=4):Fz Tryz.prog Qg 180 [v] fun r=>r= .int .u32 (Yv l):=by
 refine Qw Tryz.func180 rfl ?_;obtain⟨m,rfl,hm⟩:=(Q8l v l hv (by omega) 0 4 (by omega) (by omega)).op (by rfl) (Qa (hv.frz _) rfl);have e:Q2m l 0 4=(Yv l,0):=by have:l.take 4=l:=Ztz (by omega);simp[Q2m,hl,this]
 have lt:=Qlb l;rw[hl] at lt;rw[e] at hm;have hm' :∀s H,AM.callOp Qg (Qp Tryz.prog Qg) 180 0 s 176 [v,.int .i64 0,.int .i64 4] H=some (.ret (.tuple [.int .i64 (Yv l),.int .i64 0]),H):=fun s H=>hm 180 0 s H rfl;have cv:∀g,convertV Tryz.prog g 3 27 (.int .i64 (Yv l))=some (.val (.int .u32 (Yv l)) none):=fun g=>by
  simp only[convertV,Tryz.underlying3,Tryz.underlying27];have:(IntKind.u32).wrap (Yv l:Int)=Yv l:=by rw[IntKind.wrap_u32];omega
  simp only[this]
 simp only[wA,↓Qc,simprocAttr,Tryz.ntmps180,ta,wH,wB,hm',cv];exact W.done (Qk.ret (v:= .int .u32 (Yv l)) rfl rfl rfl)
theorem cut3{P:Program}{u e:TypeId}{v:V}{l:List UInt8}(hu:P.underlying u=some (.slice e))(hs:sz P e=some 1)(h:Qf v l){a b:Nat}(h1:a<=b)(h2:b<=l.length)(g:Get):
 ∃w,(∀g,Zh P g u v (some (.int .i64 a)) (some (.int .i64 b)) (some (.int .i64 b))=some w)/\Qf w ((l.drop a).take (b-a))/\((w= .nS/\v= .nS)\/∃c n,w= .iS c n true):=by
 have ol:∀x:Nat,Yj (some (.int .i64 x))=some (some (x:Int)):=fun x=>rfl;obtain⟨hl,⟨rfl,h0⟩|⟨f,rfl⟩⟩:=h
 . have hb:b=0:=by omega
   have ha:a=0:=by omega
   subst hb ha;refine⟨.nS,fun g=>?_,?_,.inl ⟨rfl,rfl⟩⟩
   . simp only[Zh,ol,hu,hs,Xs];rfl
   . rw[Zt5,List.take_zero];exact Qf.nil
 . refine⟨.iS (((Qb l).drop (a*1)).take ((b-a)*1)) (b-a) true,fun g=>?_,?_,.inr ⟨_,_,rfl⟩⟩
   . simp only[Zh,ol,hu,hs,Qj9,hl,if_true,Xs,Zs3];rw[if_pos ⟨by omega,by omega,by omega,by omega,by omega,by omega,by simp⟩];simp
   . rw[Zsd,Zsd,Qfy,Qa4];have:((l.drop a).take (b-a)).length=b-a:=by simp;omega
     have h3:=Qf.mk ((l.drop a).take (b-a)) true;rwa[this] at h3
theorem Qpi(v:V)(l:List UInt8)(hv:Qf v l)(k:Nat)(hk:0<k):Fz Tryz.prog Qg 34 [v,.int .i64 k] fun r=>r= .func (.func 58) [] [.iptr [v] 0,.iptr [.int .i64 k] 0]:=by
 refine Qw Tryz.func34 rfl ?_;have c1:=hv.cells1;have c2:decide ((k:Int)<1)=false:=by simp;omega
 simp only[wA,↓Qc,simprocAttr,Tryz.ntmps34,ta,wH,wB,c1,c2];have hf:frz (Qd [[(2,O.cells [v]),(3,O.cells [.int .i64 k])]]) depth (.func (.func 58) [] [.ptr 0 2 0,.ptr 0 3 0])=some (.func (.func 58) [] [.iptr [v] 0,.iptr [.int .i64 k] 0]):=by
  have e:=hv.frz (g:=Qd [[(2,O.cells [v]),(3,O.cells [.int .i64 k])]]) 9;have e1:frz (Qd [[(2,O.cells [v]),(3,O.cells [.int .i64 k])]]) 11 (.ptr 0 2 0)=some (.iptr [v] 0):=by show(Qt (frz (Qd [[(2,O.cells [v]),(3,O.cells [.int .i64 k])]]) 10) [v]).map _=_;rw[Qa e rfl];rfl
  show(match Qt (frz _ 11) [],Qt (frz _ 11) [.ptr 0 2 0,.ptr 0 3 0] with|some a,some b=>some (V.func _ a b)|_,_=>none)=_;rw[Qa e1 (Qa (y:= .iptr [.int .i64 k] 0) rfl rfl)];rfl
 exact W.done (Qk.ret (v:= .func (.func 58) [] [.ptr 0 2 0,.ptr 0 3 0]) rfl hf rfl)
theorem Q8m(v:V)(l:List UInt8)(hv:Qf v l)(hl:l.length<=281474976710656)(k:Nat)(hk:0<k)(hk2:k<=281474976710656)(m:Nat)(hm:l.length=k*m)(fo so:Nat)(HS:Nat->Heap)(hlen:∀i,(HS i).length=(HS 0).length)(hw:WF (HS m))
 (step:∀j,j<m->∀w,Qf w ((l.drop (k*j)).take k)->Qp Tryz.prog Qg none [.yield fo so,w] (HS j++[[]])=some (.ret (.bool true),HS (j+1)++[[]])):
 CW Tryz.prog Qg 58 [.yield fo so,.iptr [v] 0,.iptr [.int .i64 k] 0] (HS 0) fun r H' =>r= .ret (.tuple [])/\H' =HS m:=by
 refine Kb Tryz.func58 rfl ?_;have len:=hv.len Tryz.underlying26;simp only[wA,↓Qc,simprocAttr,Tryz.ntmps58,ta,wH,wB];refine W.ul ?_;refine W.loopS (kt:=[0,1,2,4]) rfl (fun j:Nat=>Qtl (.yield fo so) (.iptr [v] 0) (.iptr [.int .i64 k] 0) (.int .i64 ((k*j:Nat):Int))) (fun j=>HS j++[[]]) (fun j=>j<=m) (fun j=>m-j) ?_ 0 (Zt2 _) rfl rfl;intro j hj;simp only[Qtl];by_cases h:j<m
 . have hle:k*j+k<=l.length:=by
    have:k*(j+1)<=k*m:=Nat.mul_le_mul_left k h;rw[Nat.mul_succ] at this;omega
   have c1:decide (((k*j:Nat):Int)<l.length)=true:=by simp only[decide_eq_true_eq];omega
   obtain⟨w1,sl1,hw1⟩:=hv.cut (P:=Tryz.prog) Tryz.underlying26 sz5 (some ((k*j:Nat):Int)) none (by simp only[Zs3];omega) (by simp only[Zs3,Zsu];omega) (by simp only[Zsu];omega);have len1:=hw1.len Tryz.underlying26;have e1:((l.drop ((some ((k*j:Nat):Int)).getD 0).toNat).take (((none:Option Int).getD l.length).toNat-((some ((k*j:Nat):Int)).getD 0).toNat)).length=l.length-k*j:=by simp only[Zs3,Zsu,Ztx,Zsv,Zsw];omega
   rw[e1] at len1;simp only[Zrb,Ztc] at sl1;have mn:(if((l.length-k*j:Nat):Int)<(k:Int) then((l.length-k*j:Nat):Int) else(k:Int))=k:=if_neg (by omega);have w2:(IntKind.i64).wrap (((k*j:Nat):Int)+k)=((k*j+k:Nat):Int):=by rw[wrap_i64]<;>omega
   obtain⟨w3,sl3,hw3,_⟩:=cut3 (P:=Tryz.prog) Tryz.underlying26 sz5 hv (a:=k*j) (b:=k*j+k) (by omega) hle (fun _ _=>none);rw[Nat.add_sub_cancel_left] at hw3;have st:=step j h w3 hw3;generalize hP:(k*j:Nat)=p at*;generalize hQ:(p+k:Nat)=q at*;simp only[wA,↓Qc,simprocAttr,ta,wH,wB,c1,len,len1,sl1,sl3,mn,w2,st,Z6,Qdt];refine W.opsK (by kernel_rfl) ?_;simp only[wA,↓Qc,simprocAttr,ta,wH,wB,c1,len,len1,sl1,sl3,mn,w2,st,Z6,Qdt];refine W.done ⟨j+1,?_,rfl,h,by omega⟩;have e2:k*(j+1)=q:=by rw[Nat.mul_succ,hP,hQ]
   rw[e2];rfl
 . have hjm:j=m:=by omega
   subst hjm;have c1:decide (((k*j:Nat):Int)<l.length)=false:=by simp only[decide_eq_false_iff_not];omega
   simp only[wA,↓Qc,simprocAttr,ta,wH,wB,len,c1];refine W.done ?_;simp only[wA,↓Qc,simprocAttr];refine W.done (End.normal (v:= .tuple []) rfl ⟨rfl,?_⟩);have:=Zl (H:=HS j) (G:=[[]]) (v:= .tuple []) rfl hw;rw[hlen] at this;exact this
end
end Go.Proofs.YtidniacddkalaaaGreatDoor
