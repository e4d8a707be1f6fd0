/- This file holds in one the texts E10, E11, F1, F4, F5, DG, DH, DS, DS2, DI, DJ, F9; each says at its head what it proves. -/
import Derived.Test.YtpdimkonjmoadaaGreatDoorT16
import Derived.Test.YtpdimkonjmoadaaGreatDoorT18
import Derived.Test.YtpdimkonjmoadaaGreatDoorT20
import Derived.Test.YtpdimkonjmoadaaGreatDoorT22
set_option linter.unusedSimpArgs false
set_option linter.unusedVariables false
noncomputable section
namespace Go.Proofs.YtpdimkonjmoadaaGreatDoor
section
set_option maxRecDepth 100000
open Go.AM
attribute [local irreducible] U W
theorem Qsu(bv wv sv:V)(d:Int)(hd:Fz Tp Qf 67 [.agg [bv,wv]] fun x=>x= .int .i64 d)(hf:frz (fun _ _=>none) depth (.agg [bv,wv])=some (.agg [bv,wv]))(sb:bv.scalar=true)(sw:wv.scalar=true)
 (space:List UInt8)(hs:Qk sv space)(epoch count:Int):
 Fz Tp Qf 38 [.agg [bv,wv,sv,.int .u32 epoch,.int .u32 count]] fun x=>x= .int .i64 (okE (Qd6 d (Qbg space) epoch count)):=by
 refine Zp Tryz.func38 rfl ?_;have ss:=Zo hs;obtain⟨m,rfl,hm⟩:=hd.op (by rfl) (Qa hf rfl);have hm1:∀s H,_:=fun s H=>hm 38 0 s H rfl;obtain⟨m,rfl,hm⟩:=(Qsl sv space hs).op (by rfl) (Qa (hs.frz _) rfl);have hm2:∀s H,_:=fun s H=>hm 38 0 s H rfl;simp only[okE_if] at hm2;simp only[wX,↓Qc,simprocAttr,Tryz.ntmps38,sb,sw,ss,hm1,hm2,X7]
 repeat' ((first|refine W.guardF ?_ ?_|refine W.guardT ?_ ?_|refine W.guardXF ?_ ?_|refine W.guardXT ?_ ?_|refine W.ite ?_ ?_|refine W.opsK1 (by kernel_rfl) ?_)<;>intro h<;>simp only[wX,↓Qc,simprocAttr,h,sb,sw,ss,hm1,hm2,X7])
 all_goals refine W.done (Zc.ret rfl rfl ?_)
 all_goals first|rfl|(simp only[okE,Qd6, *,Yb,if_true,if_false];try rfl)
theorem Q6p(F:AM.Frame)(pc:List V)(hw:Q0 (fun f _=>Nat.ble 1 f) F=true)(hF:Xf F 1=some (.cells pc))(hpl:pc.length=19)(nid ng:Int)(h17:pc[17]?=some (.int .i64 nid))(h18:pc[18]?=some (.int .u32 ng))(l:Ji)(dv:V)(hd:Bm dv l.dead):
 CW Tp Qf 46 [.agg (Ja l dv),.ptr 0 1 0] [F,[],[]] fun r H=>r= .ret (.bool (Yo nid ng l))/\H=[F,[],[]]:=by
 refine Ye Tryz.func46 rfl ?_;have sc:=Zo hd;obtain⟨id,kind,owner,prev,txg,guid,key,root,dead⟩:=l;obtain⟨ra,rb,rc,rd,re⟩:=root;simp only[Ja];simp only[wX,↓Qc,simprocAttr,Tryz.ntmps46,Zq2,Zq4,Zqo,Zrg,sc,hF,h17,h18]
 repeat' ((first|refine W.guardF ?_ ?_|refine W.guardT ?_ ?_|refine W.guardXF ?_ ?_|refine W.guardXT ?_ ?_|refine W.ite ?_ ?_|refine W.opsK1 (by kernel_rfl) ?_)<;>intro h<;>simp only[wA,↓Qc,simprocAttr,h,ta,wH,sc,hF,h17,h18])
 all_goals refine W.done (End.ret (v:= .bool (Yo nid ng ⟨id,kind,owner,prev,txg,guid,key,⟨ra,rb,rc,rd,re⟩,dead⟩)) ?_ ⟨rfl,pop3 rfl hw⟩)
 all_goals simp only[Yo, *,Zql,Zsh,Bool.true_or,Bool.or_true,Zqr,Zsi]
 all_goals rfl
theorem Qx2(v:V)(l:List Ji)(cs:List V)(hc:LinesC cs l)(hv:Qv 13 v cs l.length)(hl:l.length<=9223372036854775807)(F:AM.Frame)(pc:List V)(hw:Q0 (fun f _=>Nat.ble 1 f) F=true)(hF:Xf F 1=some (.cells pc))(hpl:pc.length=19)(nid ng:Int)(h17:pc[17]?=some (.int .i64 nid))(h18:pc[18]?=some (.int .u32 ng)):
 CW Tp Qf 78 [v,.func (.func 46) [] [.ptr 0 1 0]] [F,[]] fun r H=>r= .ret (.int .i64 (Yi (Yo nid ng) 0 l))/\H=[F,[]]:=by
 refine Ye Tryz.func78 rfl ?_;have len:=hv.len Zu5;simp only[wX,↓Qc,simprocAttr,Tryz.ntmps78,Zq2,Zq4,len];refine W.ul ?_;refine W.loopS (kt:=[0,1,7,8]) rfl (fun i:Nat=>Zax v (.func (.func 46) [] [.ptr 0 1 0]) (.int .i64 l.length) (.int .i64 i)) (fun _=>[F,[],[]]) (fun i=>i<=l.length/\Yi (Yo nid ng) i (l.drop i)=Yi (Yo nid ng) 0 l) (fun i=>l.length-i) ?_ 0 ⟨by omega,rfl⟩ rfl rfl;rintro i ⟨hi,hR⟩;simp only[Zax];by_cases h:i<l.length
 . have c1:decide ((i:Int)<l.length)=true:=Zsw (by omega);have at1:=hv.at (k:= .i64) Zu5 Qjg (by decide) (i:=(i:Int)) (by omega) (by omega);obtain⟨dv,hdv,ld⟩:=hc.ld h;have ld1:∀g,ldV Tp 82 g (.iptr cs ((i:Int).toNat*13))=_:=ld;have w1:(IntKind.i64).wrap ((i:Int)+1)=((i+1:Nat):Int):=by rw[wrap_i64]<;>omega
   obtain⟨r,H',e1,e2,rfl⟩:=Q6p F pc hw hF hpl nid ng h17 h18 l[i] dv hdv;subst e2;have hcall:∀d,callOp Qf (Qq Tp Qf) 78 2 d 46 [.agg (Ja l[i] dv),.ptr 0 1 0] [F,[],[]]=_:=fun d=>Xs rfl rfl rfl e1;have hS:Yi (Yo nid ng) i (l.drop i)=if Yo nid ng l[i] then(i:Int) else Yi (Yo nid ng) (i+1) (l.drop (i+1)):=by rw[Zsn h];rfl
   rw[hR] at hS;simp only[wX,↓Qc,simprocAttr,c1,at1,ld1,hcall,Zqo,Zrg];refine W.ite ?_ ?_<;>intro h2<;>simp only[wA,↓Qc,simprocAttr,ta,wH,w1]
   . refine W.done ?_;simp only[wA,↓Qc,simprocAttr];refine W.done (End.ret (v:= .int .i64 (Yi (Yo nid ng) 0 l)) ?_ ⟨rfl,pop2 rfl hw⟩);rw[hS,h2];rfl
   . refine W.done ⟨i+1,rfl,rfl,⟨by omega,?_⟩,by omega⟩;rw[hS,h2];rfl
 . have c1:decide ((i:Int)<l.length)=false:=Zsx (by omega);simp only[wA,↓Qc,simprocAttr,c1];refine W.done ?_;simp only[wA,↓Qc,simprocAttr];refine W.done (End.ret (v:= .int .i64 (Yi (Yo nid ng) 0 l)) ?_ ⟨rfl,pop2 rfl hw⟩);rw[<-hR,Zrz (by omega)];rfl
theorem Qv9(v:V)(l:List Ji)(cs:List V)(hc:LinesC cs l)(hv:Qv 13 v cs l.length)(hl:l.length<=9223372036854775807)(F:AM.Frame)(pc:List V)(hw:Q0 (fun f _=>Nat.ble 1 f) F=true)(hF:Xf F 1=some (.cells pc))(hpl:pc.length=19)(nid ng:Int)(h17:pc[17]?=some (.int .i64 nid))(h18:pc[18]?=some (.int .u32 ng)):
 CW Tp Qf 45 [v,.func (.func 46) [] [.ptr 0 1 0]] [F] fun r H=>r= .ret (.bool (l.any (Yo nid ng)))/\H=[F]:=by
 refine Ye Tryz.func45 rfl ?_;obtain⟨r,H',e1,e2,rfl⟩:=Qx2 v l cs hc hv hl F pc hw hF hpl nid ng h17 h18;subst e2;have hcall:∀d,callOp Qf (Qq Tp Qf) 45 1 d 78 [v,.func (.func 46) [] [.ptr 0 1 0]] [F,[]]=_:=fun d=>Xs rfl rfl rfl e1;simp only[wX,↓Qc,simprocAttr,Tryz.ntmps45,Zq2,Zq4,Zqo,Zrg,hcall,Qna];exact W.done (End.ret (v:= .bool (l.any (Yo nid ng))) rfl ⟨rfl,pop1 rfl hw⟩)
theorem _root_.Go.AM.ChangesC.ld{ls:List Zv}{cs:List V}{i:Nat}(h:ChangesC cs ls)(hi:i<ls.length):∃dv,Qm6 dv ls[i].n/\(∀g,ldV Tp 84 g (.iptr cs (i*12))=some (.agg (Qw ls[i] dv))):=by obtain⟨dv,h1,h2⟩:=h.at_ (Zpk hi);refine⟨dv,h2,fun g=>?_⟩;show Qr Tp 84 cs (i*12)=_;have:=h.len;rw[rd84,if_pos (by omega),h1]
structure Q7f(bv wv sv mv lv kv ov cv:V)(d:Int)(space:List UInt8)(p:Qqv):Prop where
 dev:Fz Tp Qf 67 [.agg [bv,wv]] fun x=>x= .int .i64 d
 frz:frz (fun _ _=>none) depth (.agg [bv,wv])=some (.agg [bv,wv])
 frz0:∀g m,AM.frz g (m+10) bv=some bv/\AM.frz g (m+10) wv=some wv
 nr:∀q,bv.refs q=false/\wv.refs q=false
 sb:bv.scalar=true
 sw:wv.scalar=true
 space:Qk sv space
 own:Ke mv p.own
 lines:Qil lv p.lines
 keys:Kf kv p.keys
 loaded:Kf ov p.loaded
 changes:Qt2 cv p.changes
 fit:p.own.length<=9223372036854775807/\p.lines.length<=9223372036854775807/\p.changes.length<=9223372036854775807/\p.keys.length<=9223372036854775807/\p.loaded.length<=9223372036854775807/\(∀k∈p.keys,k.length<=9223372036854775807)/\(∀k∈p.loaded,k.length<=9223372036854775807)
theorem Qy9(a:Int):Fz Tp Qf 101 [.int .i64 a] fun x=>x= .bool (Qvr a):=by
 refine Zp Tryz.func101 rfl ?_;have cv:∀g,convertV Tp g 3 197 (.int .i64 a)=some (.val (.int .u64 ((IntKind.u64).wrap a)) none):=fun g=>by simp only[convertV,Zu3,Zu11]
 simp only[wA,↓Qc,simprocAttr,Tryz.ntmps101,cv];exact W.done (Zc.ret rfl rfl rfl)
theorem Qz7(bv wv:V)(bl:List (List UInt8))(wl:List (Int×List UInt8))(hb:Kf bv bl)(hw:Xh wv wl)(b1:bl.length<=9223372036854775807)(w1:wl.length<=9223372036854775807):
 Fz Tp Qf 67 [.agg [bv,wv]] fun x=>x= .int .i64 (okE (Qo9 bl wl)):=by
 refine Fz.of_cw ?_;refine(?_:CW Tp Qf 67 [.agg [bv,wv]] [] fun x _=>x= .ret (.int .i64 (okE (Qo9 bl wl)))).mono (fun r H' h=>⟨_,h,_,rfl,rfl⟩);refine Ye Tryz.func67 rfl ?_;obtain⟨bcs,hbc,hbv⟩:=hb;obtain⟨wcs,hwc,hwv⟩:=hw;have lb:=hbv.len Zu1;have lw:=hwv.len Zu4;have bsc:bv.scalar=true:=Zo hbv;have wsc:wv.scalar=true:=Zo hwv;generalize hok:(((bl.length:Int)==256)&&decide ((wl.length:Int)<=4096))=ok0;have ldr:∀i:Nat,(h:i<bl.length)->∃v,Qk v bl[i]/\∀g,ldV Tp 23 g (.iptr bcs ((i:Int).toNat*1))=some v:=fun i hi=>by
  obtain⟨v,h1,h2⟩:=hbc.at_ hi;refine⟨v,h2,fun g=>?_⟩;have e:(i:Int).toNat*1=i:=by omega
  rw[e];show Qr Tp 23 bcs i=_;rw[rd23,h1]
 cases hc1:((bl.length:Int)==256)<;>cases hc2:decide ((wl.length:Int)<=4096)
 all_goals
  have h00:=hok;rw[hc1,hc2] at h00;simp only[wX,↓Qc,simprocAttr,Tryz.ntmps67,wsc,bsc,lw,lb,hc1,hc2];refine W.ul ?_;refine W.loopS (kt:=[1,3,19,20,21]) rfl (fun i:Nat=>Qmr (.ptr 0 1 0) (.bool (Qlr ok0 Qdn bl i)) bv (.int .i64 bl.length) (.int .i64 i)) (fun i=>[[(1,.cells [bv,wv])]]) (fun i=>i<=bl.length) (fun i=>bl.length-i) ?_ 0 (Zr9 _) (by rw[Qtn,<-h00];rfl) rfl;rintro i hi;simp only[Qmr];by_cases h:i<bl.length
  . have c1:decide ((i:Int)<bl.length)=true:=Zsw (by omega);have w1:(IntKind.i64).wrap ((i:Int)+1)=((i+1:Nat):Int):=by rw[wrap_i64]<;>omega
    obtain⟨v,hv,hf⟩:=ldr i h;have lv:=hv.len Zu0;have vs:=Zo hv;have at1:=hbv.at (k:= .i64) Zu1 Qah (by decide) (i:=(i:Int)) (by omega) (by omega);have hn:=Qt0 ok0 Qdn bl i h;cases hb:Qlr ok0 Qdn bl i
    all_goals
     rw[hb] at hn;simp only[wA,↓Qc,simprocAttr,c1,at1,hf,ta,w1,lv,vs];exact W.done ⟨i+1,by rw[hn];rfl,rfl,by omega,by omega⟩
  . have c1:decide ((i:Int)<bl.length)=false:=Zsx (by omega);have hacc:=Qxu ok0 Qdn bl i (by omega);generalize Qlr ok0 Qdn bl i=ok1 at*;simp only[wA,↓Qc,simprocAttr,c1];refine W.done ?_;simp only[wX,↓Qc,simprocAttr,wsc,lw];refine W.ul ?_;refine W.loop (fun(j:Nat) t H=>∃F:AM.Frame,Jj [3,33,34,35] t 0=Qh3 (.bool (Qlr ok1 Qg5 wl j)) wv (.int .i64 wl.length) (.int .i64 j)/\j<=wl.length/\H=[F]/\(F=[(1,.cells [bv,wv])]\/∃x,F=[(1,.cells [bv,wv]),(7,.cells x)])) (fun j=>wl.length-j) ?_ 0 ⟨_,by rw[Qtn];rfl,Zr9 _,rfl,.inl rfl⟩;rintro j t H ⟨F,ht,hj,rfl,hF⟩;have hd:([F]:Heap).modify 0 (Jk fun s=>[7].contains s)=[[(1,.cells [bv,wv])]]:=by
     rcases hF with rfl|⟨x,rfl⟩<;>rfl
    have wvr:wv.refs (fun f s=>f==0&&[7].contains s)=false:=hwv.noRefs _;have bvr:bv.refs (fun f s=>f==0&&[7].contains s)=false:=hbv.noRefs _;refine⟨_,_,Zq (kt:=[3,33,34,35]) (ds:=[7]) rfl ?_ ?_,?_⟩
    . rw[ht];simp only[Qh3,Qh,V.refs,wvr];simp
    . rw[hd];simp only[Zb,Q0,O.refs,Qh,V.refs,wvr,bvr];simp
    rw[ht,hd];simp only[Qh3];by_cases h2:j<wl.length
    . have c2:decide ((j:Int)<wl.length)=true:=Zsw (by omega);have w2:(IntKind.i64).wrap ((j:Int)+1)=((j+1:Nat):Int):=by rw[wrap_i64]<;>omega
      obtain⟨e1,v,e2,hv⟩:=hwc.at_ h2;have lv:=hv.len Zu0;have vs:=Zo hv;have at1:=hwv.at (k:= .i64) Zu4 Qdq (by decide) (i:=(j:Int)) (by omega) (by omega);have ldw:∀g,ldV Tp 134 g (.iptr wcs ((j:Int).toNat*2))=some (.agg [.int .i64 wl[j].1,v]):=fun g=>by
       have e:(j:Int).toNat*2=2*j:=by omega
       have hl:=hwc.len;rw[e];show Qr Tp 134 wcs (2*j)=_;rw[Qtg,if_pos (by omega)];have d1:wcs.drop (2*j)=V.int .i64 wl[j].1::v::wcs.drop (2*j+1+1):=by rw[Zsn (by omega:2*j<wcs.length),Zsn (by omega:2*j+1<wcs.length)];rw[Zpk (by omega)] at e1 e2;rw[Option.some.inj e1,Option.some.inj e2]
       rw[d1];rfl
      obtain⟨m,rfl,hm⟩:=(Qy9 wl[j].1).op (by rfl) rfl;have hm' :∀s H,_:=fun s H=>hm 67 0 s H rfl;have hn:=Qt0 ok1 Qg5 wl j h2;cases hb:Qlr ok1 Qg5 wl j<;>cases hp:Qvr wl[j].1
      all_goals
       rw[hb] at hn;simp only[Qg5,hp] at hn;rw[hp] at hm';simp only[wX,↓Qc,simprocAttr,c2,at1,ldw,w2,hm',lv,vs];exact W.done ⟨j+1,⟨_,by rw[hn];rfl,by omega,rfl,.inr ⟨_,rfl⟩⟩,by omega⟩
    . have c2:decide ((j:Int)<wl.length)=false:=Zsx (by omega);have hacc2:=Qxu ok1 Qg5 wl j (by omega);have hfin:Qo9 bl wl=Qlr ok1 Qg5 wl j:=by
       rw[hacc2,hacc,<-hok];rfl
      rw[hfin];generalize Qlr ok1 Qg5 wl j=ok2 at*;simp only[wA,↓Qc,simprocAttr,c2];refine W.done ?_;cases ok2
      all_goals
       simp only[wA,↓Qc,simprocAttr];exact W.done (End.ret rfl rfl)
theorem Qa8(l:List UInt8):(Qb l).all Qi6=true:=by rw[Zqt];intro x hx;simp only[Qb,Zp3] at hx;obtain⟨b,_,rfl⟩:=hx;rfl
theorem Qgv{bv wv:V}{bl:List (List UInt8)}{wl:List (Int×List UInt8)}(hb:Kf bv bl)(hw:Xh wv wl)(g:Get):frz g depth (.agg [bv,wv])=some (.agg [bv,wv]):=by obtain⟨bcs,hbc,hbv⟩:=hb;obtain⟨wcs,hwc,hwv⟩:=hw;show Option.map V.agg (Qx (AM.frz _ 11) [bv,wv])=_;rw[Qa (hbv.frz 10) (Qa (hwv.frz 10) rfl)];rfl
theorem Q9v(v:V)(l:List UInt8)(hv:Qk v l):Fz Tp Qf 281 [v] fun r=>r= .func (.func 383) [] [.iptr [v] 0]:=by
 refine Zp Tryz.func281 rfl ?_;have c1:=hv.cells1;simp only[wX,↓Qc,simprocAttr,Tryz.ntmps281,c1];have hf:frz (Qd [[(1,O.cells [v])]]) depth (.func (.func 383) [] [.ptr 0 1 0])=some (.func (.func 383) [] [.iptr [v] 0]):=by
  have e:=hv.frz (g:=Qd [[(1,O.cells [v])]]) 9;have e1:frz (Qd [[(1,O.cells [v])]]) 11 (.ptr 0 1 0)=some (.iptr [v] 0):=by show(Qx (frz (Qd [[(1,O.cells [v])]]) 10) [v]).map _=_;rw[Qa e rfl];rfl
  show(match Qx (frz _ 11) [],Qx (frz _ 11) [.ptr 0 1 0] with|some a,some b=>some (V.func _ a b)|_,_=>none)=_;rw[Qa e1 rfl];rfl
 exact W.done (Zc.ret (v:= .func (.func 383) [] [.ptr 0 1 0]) rfl hf rfl)
theorem Zac(v:V)(l:List UInt8)(hv:Qk v l)(hl:l.length<=281474976710656)(fo so:Nat)(HS:Nat->Heap)(hlen:∀i,(HS i).length=(HS l.length).length)(hw:WF (HS 0))
 (step:∀i (h:i<l.length),Qq Tp Qf none [.yield fo so,.int .i64 i,.int .u8 l[i].toNat] (HS (i+1)++[[]])=some (.ret (.bool true),HS i++[[]])):
 CW Tp Qf 383 [.yield fo so,.iptr [v] 0] (HS l.length) fun r H' =>r= .ret (.tuple [])/\H' =HS 0:=by
 refine Ye Tryz.func383 rfl ?_;have len:=hv.len Zu0;have w0:(IntKind.i64).wrap ((l.length:Int)-1)=(l.length:Int)-1:=by rw[wrap_i64]<;>omega
 simp only[wX,↓Qc,simprocAttr,Tryz.ntmps383,len,w0];refine W.ul ?_;refine W.loopS (kt:=[0,1,3]) rfl (fun i:Nat=>Qwf (.yield fo so) (.iptr [v] 0) (.int .i64 ((i:Int)-1))) (fun i=>HS i++[[]]) (fun i=>i<=l.length) (fun i=>i) ?_ l.length (Zpp _) rfl rfl;intro j hj;cases j with
 |zero=>
  have c1:decide ((((0:Nat):Int)-1)>=0)=false:=rfl;simp only[Qwf];simp only[wA,↓Qc,simprocAttr,c1];refine W.done ?_;simp only[wA,↓Qc,simprocAttr];refine W.done (End.normal (v:= .tuple []) rfl ⟨rfl,?_⟩);have:=Br (H:=HS 0) (G:=[[]]) (v:= .tuple []) rfl hw;rw[hlen] at this;exact this
 |succ i=>
  have e:((i+1:Nat):Int)-1=i:=by omega
  have c1:decide ((i:Int)>=0)=true:=by simp
  have at1:=hv.at (k:= .i64) Zu0 sz5 (by decide) (i:=(i:Int)) (by omega) (by omega);have get1:(Qb l)[(i:Int).toNat*1]?=some (.int .u8 l[i].toNat):=by have:i<l.length:=hj;simp[Qek,this]
  have get1' :(Qb l)[(i:Int).toNat]?=some (.int .u8 l[i].toNat):=by simpa using get1
  have st:=step i hj;have w1:(IntKind.i64).wrap ((i:Int)-1)=(i:Int)-1:=by rw[wrap_i64]<;>omega
  simp only[Qwf,e];simp only[wX,↓Qc,simprocAttr,c1,len,at1,get1,get1',rd5,st,Qk4,Q0a,w1];exact W.done ⟨i,rfl,rfl,by omega,by omega⟩
theorem Qzt(k:Nat):Fz Tp Qf 280 [.int .i64 k] fun r=>r= .bool (decide (0<k)&&decide (k<=4)):=by
 refine Zp Tryz.func280 rfl ?_;have c1:decide ((k:Int)>0)=decide (0<k):=by simp
 have c2:decide ((k:Int)<=4)=decide (k<=4):=by simp;omega
 simp only[wX,↓Qc,simprocAttr,Tryz.ntmps280,c1,c2];cases h:decide (0<k) with
 |true=>
  simp only[wA,↓Qc,simprocAttr];exact W.done (Zc.ret rfl rfl (by simp;omega))
 |false=>
  simp only[wA,↓Qc,simprocAttr];exact W.done (Zc.ret rfl rfl (by simp))
def Yr:List UInt8->Nat
 |[]=>0
 |b::r=>b.toNat+256*Yr r
theorem Qol:∀l:List UInt8,Yr l<256^l.length
 |[]=>by decide
 |b::r=>by
  have:=Qol r;have hb:=UInt8.toNat_lt b;simp only[Yr,Zq2,Nat.pow_succ];omega
def getR(l:List UInt8)(at_ k:Nat):Nat×Nat:=
 if !(decide (0<k)&&decide (k<=4))||decide (l.length<at_) then(0,2) else if l.length<at_+k then(0,8) else(Yr ((l.drop at_).take k),0)
theorem Q38{n:Nat}(h:1<=n){s r f x:Nat}{T:List V}{G:AM.Heap}(hr:Qh (fun f _=>Nat.ble 1 f) T=false){o:AM.O}(ho:o.refs (fun f _=>Nat.ble 1 f)=false)(hG:G=[[]]\/G=[]):WF ([[(s,o),(r,.loop 0 none f x T)]]++G):=by
 have h1:Zb (fun f _=>Nat.ble 1 f) [[(s,o),(r,.loop 0 none f x T)]]=true:=by have h0:(O.loop 0 none f x T).refs (fun f _=>Nat.ble 1 f)=false:=hr;simp only[Zb,Q0,ho,h0];rfl
 have h2:WF [[(s,o),(r,O.loop 0 none f x T)]]:=h1;rcases hG with rfl|rfl
 . exact h2.app rfl
 . exact h2
theorem Q6k(p:List UInt8)(n:Nat)(hn:Yr p<4294967296)(T:List V)(hT:T.length=43)(h8:T.getD 8 .bad= .ptr 0 8 0)(hr:Qh (fun f _=>Nat.ble 1 f) T=false)(i:Nat)(hi:i<p.length)(hnl:Yr (p.drop i)<4294967296):
 Qq Tp Qf none [.yield 0 1000009,.int .i64 i,.int .u8 p[i].toNat] ([[(8,.cells [.int .i64 (Yr (p.drop (i+1)))]),(1000009,.loop 0 none 178 9 T)]]++[[]])=some (.ret (.bool true),[[(8,.cells [.int .i64 (Yr (p.drop i))]),(1000009,.loop 0 none 178 9 T)]]++[[]]):=by
 obtain⟨r,H3,h1,rfl,rfl⟩:=Qy5 (P:=Tp) (pol:=Qf) (fo:=0) (so:=1000009) (args:=[.int .i64 i,.int .u8 p[i].toNat]) (H:=[[(8,.cells [.int .i64 (Yr (p.drop (i+1)))]),(1000009,.loop 0 none 178 9 T)],[]]) (p:=none) (fL:=178) (rid:=9) (t0:=T)
  (R:=fun r H3=>r= .ret (.bool true)/\H3=[[(8,.cells [.int .i64 (Yr (p.drop i))]),(1000009,.loop 0 none 178 9 T)],[]]) rfl (Qtt Tryz.func178 rfl rfl) rfl (by
    have ed:p.drop i=p[i]::p.drop (i+1):=Zsn hi;have en:Yr (p.drop i)=p[i].toNat+256*Yr (p.drop (i+1)):=by rw[ed];rfl
    change W (U _ _ _ _ _ _ _ .normal ((T.set 35 _).set 36 _) _) _;have hL:∀a b x y,((T.set a x).set b y).length=43:=fun a b x y=>by simp[hT]
    simp only[wX,↓Qc,simprocAttr,Qtr,Quc,Zqx,hT,h8,Nat.reduceBEq];refine W.done ⟨rfl,none,178,9,T,rfl,?_⟩;have nl:Yr (p.drop (i+1))<16777216:=by omega
    have hb:=UInt8.toNat_lt p[i];have w1:(IntKind.i64).wrap (256*(Yr (p.drop (i+1)):Int))=((256*Yr (p.drop (i+1)):Nat):Int):=by rw[wrap_i64]<;>omega
    have w2:(IntKind.i64).wrap (((256*Yr (p.drop (i+1)):Nat):Int)+(p[i].toNat:Int))=(Yr (p.drop i):Int):=by rw[wrap_i64]<;>omega
    have cv:∀g,convertV Tp g 5 3 (.int .u8 p[i].toNat)=some (.val (.int .i64 p[i].toNat) none):=fun g=>by
     simp only[convertV,Zu3,Zu10];have:(IntKind.i64).wrap (p[i].toNat:Int)=p[i].toNat:=by rw[wrap_i64]<;>omega
     simp only[this]
    simp only[wX,↓Qc,simprocAttr,Qtr,Quc,Zqx,hT,h8,Nat.reduceBEq,w1,w2,cv];refine W.done ⟨_,_,rfl,rfl,?_⟩
    exact Br (H:=[[(8,.cells [.int .i64 (Yr (p.drop i))]),(1000009,.loop 0 none 178 9 T)],[]]) (G:=[[]]) rfl (Q38 (n:=1) (by omega) hr rfl (.inl rfl)))
 exact h1
theorem Zay(w:V)(p:List UInt8)(hw:Qk w p)(hp:p.length<=4)(T:List V)(hT:T.length=43)(h8:T.getD 8 .bad= .ptr 0 8 0)(hr:Qh (fun f _=>Nat.ble 1 f) T=false):
 CW Tp Qf 383 [.yield 0 1000009,.iptr [w] 0] [[(8,.cells [.int .i64 0]),(1000009,.loop 0 none 178 9 T)]] fun r H' =>r= .ret (.tuple [])/\H' =[[(8,.cells [.int .i64 (Yr p)]),(1000009,.loop 0 none 178 9 T)]]:=by
 have lt:∀i,Yr (p.drop i)<4294967296:=fun i=>by have h1:=Qol (p.drop i);have h2:256^(p.drop i).length<=256^4:=Nat.pow_le_pow_right (by decide) (by simp;omega);exact Zps h1 h2
 have:=Zac w p hw (by omega) 0 1000009 (fun i=>[[(8,.cells [.int .i64 (Yr (p.drop i))]),(1000009,.loop 0 none 178 9 T)]]) (fun _=>rfl) (Q38 (n:=1) (G:=[]) (by omega) hr rfl (.inr rfl))
  (fun i hi=>Q6k p 0 (lt 0) T hT h8 hr i hi (lt i))
 have e:Yr (p.drop p.length)=0:=by rw[List.drop_length];rfl
 simp only[e] at this;exact this
def Qr3(n a k:Nat)(p:List UInt8):Nat×Nat:=
 if !(decide (0<k)&&decide (k<=4))||decide (n<a) then(0,2) else if n<a+k then(0,8) else(Yr p,0)
theorem get_sl(v:V)(cells:List V)(n:Nat)(hv:Qv 1 v cells n)(hl:n<=281474976710656)(a k:Nat)(ha:a<=281474976710656)(hk:k<=4294967296)(p:List UInt8)(hp:a+k<=n->k<=4->(cells.drop a).take k=Qb p):
 Fz Tp Qf 178 [v,.int .i64 a,.int .i64 k] fun r=>r= .tuple [.int .i64 (Qr3 n a k p).1,.int .i64 (Qr3 n a k p).2]:=by
 refine Zp Tryz.func178 rfl ?_;obtain⟨m,rfl,hm⟩:=(Qzt k).op (by rfl) rfl;have hm' :∀s H,_:=fun s H=>hm 178 0 s H rfl;have len:=hv.len Zu0;have c0:decide ((a:Int)<0)=false:=by simp
 have c1:decide ((a:Int)>n)=decide (n<a):=by simp
 have w1:(IntKind.i64).wrap ((a:Int)+k)=((a+k:Nat):Int):=by rw[wrap_i64]<;>omega
 have c2:decide (((a+k:Nat):Int)>n)=decide (n<a+k):=by simp;omega
 generalize hs:(decide (0<k)&&decide (k<=4))=sz at*;simp only[wX,↓Qc,simprocAttr,Tryz.ntmps178,hm',len];have err:∀(x:Nat) (T:List V),T.getD 6 .bad= .int .i64 0->T.getD 7 .bad= .int .i64 x->Qr3 n a k p=(0,x)->Zc Tp Tryz.f178 (fun r=>r= .tuple [.int .i64 (Qr3 n a k p).1,.int .i64 (Qr3 n a k p).2]) .ret T [[]]:=by intro x T h1 h2 h3;refine Zc.ret (v:= .tuple [.int .i64 0,.int .i64 x]) ?_ rfl (by rw[h3];rfl);show(match Qgk Tp T [[]] [.tmp 6,.tmp 7] with|some [v]=>some v|some vs=>some (V.tuple vs)|none=>none)=_;simp only[Qgk,Bx,h1,h2]
 cases sz with
 |false=>
  simp only[wA,↓Qc,simprocAttr];refine W.done (err 2 _ rfl rfl ?_);simp[Qr3,hs]
 |true=>
  simp only[wA,↓Qc,simprocAttr,c0,c1,len];refine W.ite (fun h=>?_) (fun h=>?_)
  . simp only[wA,↓Qc,simprocAttr];refine W.done (err 2 _ rfl rfl ?_);simp only[decide_eq_true_eq] at h;simp[Qr3,hs,h]
  . have h' :¬n<a:=by simpa using h
    simp only[wA,↓Qc,simprocAttr,len,w1,c2];refine W.ite (fun h2=>?_) (fun h2=>?_)
    . simp only[wA,↓Qc,simprocAttr];refine W.done (err 8 _ rfl rfl ?_);simp only[decide_eq_true_eq] at h2;simp[Qr3,hs,h',h2]
    . have h2' :¬n<a+k:=by simpa using h2
      have hg:Qr3 n a k p=(Yr p,0):=by simp[Qr3,hs,h',h2']
      rw[hg];have kl:k<=4:=by rw[Zqf,decide_eq_true_eq,decide_eq_true_eq] at hs;exact hs.2
      obtain⟨w,sl,hw0⟩:=hv.cut (P:=Tp) Zu0 sz5 (some (a:Int)) (some ((a+k:Nat):Int)) (by simp) (by simp only[Zqs];omega) (by simp only[Zqs];omega);have e1:((some ((a+k:Nat):Int)).getD n).toNat-((some (a:Int)).getD 0).toNat=k:=by simp only[Zqs,Int.toNat_natCast];omega
      have e2:((some (a:Int)).getD 0).toNat*1=a:=by simp
      rw[e1,e2,Zp7,hp (by omega) kl] at hw0;simp only[Zpl] at sl;have pl:p.length=k:=by have:=hw0.1;rw[Za] at this;omega
      have hw:Qk w p:=by unfold Qk;rw[pl];exact hw0
      obtain⟨m3,rfl,hm3⟩:=(Q9v w p hw).op (by rfl) (Qa (hw.frz _) rfl);have hm3' :∀s H,_:=fun s H=>hm3 178 0 s H rfl;simp only[wX,↓Qc,simprocAttr,w1,sl,hm3'];refine W.rfunc (rid:=9) rfl rfl rfl ?_;refine(Zay w p hw (by omega) _ rfl rfl ?_).mono ?_
      . simp only[Qh,V.refs,hv.noRefs,hw.noRefs];rfl
      rintro r H2 ⟨rfl,rfl⟩;refine⟨_,rfl,?_⟩;rw[Qoy (st:=0) (f:=178) (r:=9) rfl (by decide) (by simp only[Qh,V.refs,hv.noRefs,hw.noRefs];rfl) rfl];have hH:∀T,List.modify [[(8,O.cells [V.int .i64 (Yr p)]),(1000009,O.loop 0 none 178 9 T)]] 0 (Jk fun x=>[Q8 9].contains x)=[[(8,O.cells [V.int .i64 (Yr p)])]]:=fun T=>rfl;rw[hH];simp only[wX,↓Qc,simprocAttr,Qk4];exact W.done (Zc.ret (v:= .tuple [.int .i64 (Yr p),.int .i64 0]) rfl rfl rfl)
theorem get_fz(v:V)(l:List UInt8)(hv:Qk v l)(hl:l.length<=281474976710656)(a k:Nat)(ha:a<=281474976710656)(hk:k<=4294967296):
 Fz Tp Qf 178 [v,.int .i64 a,.int .i64 k] fun r=>r= .tuple [.int .i64 (getR l a k).1,.int .i64 (getR l a k).2]:=
 get_sl v (Qb l) l.length hv hl a k ha hk ((l.drop a).take k) (fun _ _=>by simp[Qb])
theorem Qts(v:V)(l:List UInt8)(hv:Qk v l)(hl:l.length=4):Fz Tp Qf 381 [v] fun r=>r= .int .u32 (Yr l):=by
 refine Zp Tryz.func381 rfl ?_;obtain⟨m,rfl,hm⟩:=(get_fz v l hv (by omega) 0 4 (by omega) (by omega)).op (by rfl) (Qa (hv.frz _) rfl);have e:getR l 0 4=(Yr l,0):=by have:l.take 4=l:=Zr8 (by omega);simp[getR,hl,this]
 have lt:=Qol l;rw[hl] at lt;rw[e] at hm;have hm' :∀s H,AM.callOp Qf (Qq Tp Qf) 381 0 s 178 [v,.int .i64 0,.int .i64 4] H=some (.ret (.tuple [.int .i64 (Yr l),.int .i64 0]),H):=fun s H=>hm 381 0 s H rfl;have cv:∀g,convertV Tp g 3 56 (.int .i64 (Yr l))=some (.val (.int .u32 (Yr l)) none):=fun g=>by
  simp only[convertV,Zu3,Zu9];have:(IntKind.u32).wrap (Yr l:Int)=Yr l:=by rw[IntKind.wrap_u32];omega
  simp only[this]
 simp only[wX,↓Qc,simprocAttr,Tryz.ntmps381,hm',cv];exact W.done (Zc.ret (v:= .int .u32 (Yr l)) rfl rfl rfl)
theorem cut3{P:Program}{u e:TypeId}{v:V}{l:List UInt8}(hu:P.underlying u=some (.slice e))(hs:sz P e=some 1)(h:Qk v l){a b:Nat}(h1:a<=b)(h2:b<=l.length)(g:Get):
 ∃w,(∀g,Z9 P g u v (some (.int .i64 a)) (some (.int .i64 b)) (some (.int .i64 b))=some w)/\Qk w ((l.drop a).take (b-a))/\((w= .nS/\v= .nS)\/∃c n,w= .iS c n true):=by
 have ol:∀x:Nat,By (some (.int .i64 x))=some (some (x:Int)):=fun x=>rfl;obtain⟨hl,⟨rfl,h0⟩|⟨f,rfl⟩⟩:=h
 . have hb:b=0:=by omega
   have ha:a=0:=by omega
   subst hb ha;refine⟨.nS,fun g=>?_,?_,.inl ⟨rfl,rfl⟩⟩
   . simp only[Z9,ol,hu,hs,Qat];rfl
   . rw[Nat.sub_self,List.take_zero];exact Qk.nil
 . refine⟨.iS (((Qb l).drop (a*1)).take ((b-a)*1)) (b-a) true,fun g=>?_,?_,.inr ⟨_,_,rfl⟩⟩
   . simp only[Z9,ol,hu,hs,Qn6,hl,if_true,Qat,Zqs];rw[if_pos ⟨by omega,by omega,by omega,by omega,by omega,by omega,by simp⟩];simp
   . rw[Zp7,Zp7,Qfw,Qa6];have:((l.drop a).take (b-a)).length=b-a:=by simp;omega
     have h3:=Qk.mk ((l.drop a).take (b-a)) true;rwa[this] at h3
theorem Q8v(v:V)(l:List UInt8)(hv:Qk v l)(k:Nat)(hk:0<k):Fz Tp Qf 176 [v,.int .i64 k] fun r=>r= .func (.func 278) [] [.iptr [v] 0,.iptr [.int .i64 k] 0]:=by
 refine Zp Tryz.func176 rfl ?_;have c1:=hv.cells1;have c2:decide ((k:Int)<1)=false:=by simp;omega
 simp only[wX,↓Qc,simprocAttr,Tryz.ntmps176,c1,c2];have hf:frz (Qd [[(2,O.cells [v]),(3,O.cells [.int .i64 k])]]) depth (.func (.func 278) [] [.ptr 0 2 0,.ptr 0 3 0])=some (.func (.func 278) [] [.iptr [v] 0,.iptr [.int .i64 k] 0]):=by
  have e:=hv.frz (g:=Qd [[(2,O.cells [v]),(3,O.cells [.int .i64 k])]]) 9;have e1:frz (Qd [[(2,O.cells [v]),(3,O.cells [.int .i64 k])]]) 11 (.ptr 0 2 0)=some (.iptr [v] 0):=by show(Qx (frz (Qd [[(2,O.cells [v]),(3,O.cells [.int .i64 k])]]) 10) [v]).map _=_;rw[Qa e rfl];rfl
  show(match Qx (frz _ 11) [],Qx (frz _ 11) [.ptr 0 2 0,.ptr 0 3 0] with|some a,some b=>some (V.func _ a b)|_,_=>none)=_;rw[Qa e1 (Qa (y:= .iptr [.int .i64 k] 0) rfl rfl)];rfl
 exact W.done (Zc.ret (v:= .func (.func 278) [] [.ptr 0 2 0,.ptr 0 3 0]) rfl hf rfl)
theorem Q8n(v:V)(l:List UInt8)(hv:Qk v l)(hl:l.length<=281474976710656)(k:Nat)(hk:0<k)(hk2:k<=281474976710656)(m:Nat)(hm:l.length=k*m)(fo so:Nat)(HS:Nat->Heap)(hlen:∀i,(HS i).length=(HS 0).length)(hw:WF (HS m))
 (step:∀j,j<m->∀w,Qk w ((l.drop (k*j)).take k)->Qq Tp Qf none [.yield fo so,w] (HS j++[[]])=some (.ret (.bool true),HS (j+1)++[[]])):
 CW Tp Qf 278 [.yield fo so,.iptr [v] 0,.iptr [.int .i64 k] 0] (HS 0) fun r H' =>r= .ret (.tuple [])/\H' =HS m:=by
 refine Ye Tryz.func278 rfl ?_;have len:=hv.len Zu0;simp only[wX,↓Qc,simprocAttr,Tryz.ntmps278];refine W.ul ?_;refine W.loopS (kt:=[0,1,2,4]) rfl (fun j:Nat=>Q3z (.yield fo so) (.iptr [v] 0) (.iptr [.int .i64 k] 0) (.int .i64 ((k*j:Nat):Int))) (fun j=>HS j++[[]]) (fun j=>j<=m) (fun j=>m-j) ?_ 0 (Zr9 _) rfl rfl;intro j hj;simp only[Q3z];by_cases h:j<m
 . have hle:k*j+k<=l.length:=by
    have:k*(j+1)<=k*m:=Nat.mul_le_mul_left k h;rw[Nat.mul_succ] at this;omega
   have c1:decide (((k*j:Nat):Int)<l.length)=true:=by simp only[decide_eq_true_eq];omega
   obtain⟨w1,sl1,hw1⟩:=hv.cut (P:=Tp) Zu0 sz5 (some ((k*j:Nat):Int)) none (by simp only[Zqs];omega) (by simp only[Zqs,Zqi];omega) (by simp only[Zqi];omega);have len1:=hw1.len Zu0;have e1:((l.drop ((some ((k*j:Nat):Int)).getD 0).toNat).take (((none:Option Int).getD l.length).toNat-((some ((k*j:Nat):Int)).getD 0).toNat)).length=l.length-k*j:=by simp only[Zqs,Zqi,Int.toNat_natCast,Zqj,List.length_drop];omega
   rw[e1] at len1;simp only[Zpl,Zq9] at sl1;have mn:(if((l.length-k*j:Nat):Int)<(k:Int) then((l.length-k*j:Nat):Int) else(k:Int))=k:=if_neg (by omega);have w2:(IntKind.i64).wrap (((k*j:Nat):Int)+k)=((k*j+k:Nat):Int):=by rw[wrap_i64]<;>omega
   obtain⟨w3,sl3,hw3,_⟩:=cut3 (P:=Tp) Zu0 sz5 hv (a:=k*j) (b:=k*j+k) (by omega) hle (fun _ _=>none);rw[Nat.add_sub_cancel_left] at hw3;have st:=step j h w3 hw3;generalize hP:(k*j:Nat)=p at*;generalize hQ:(p+k:Nat)=q at*;simp only[wX,↓Qc,simprocAttr,c1,len,len1,sl1,sl3,mn,w2,st,Qk4,Q0a];refine W.opsK (by kernel_rfl) ?_;simp only[wX,↓Qc,simprocAttr,c1,len,len1,sl1,sl3,mn,w2,st,Qk4,Q0a];refine W.done ⟨j+1,?_,rfl,h,by omega⟩;have e2:k*(j+1)=q:=by rw[Nat.mul_succ,hP,hQ]
   rw[e2];rfl
 . have hjm:j=m:=by omega
   subst hjm;have c1:decide (((k*j:Nat):Int)<l.length)=false:=by simp only[decide_eq_false_iff_not];omega
   simp only[wX,↓Qc,simprocAttr,len,c1];refine W.done ?_;simp only[wA,↓Qc,simprocAttr];refine W.done (End.normal (v:= .tuple []) rfl ⟨rfl,?_⟩);have:=Br (H:=HS j) (G:=[[]]) (v:= .tuple []) rfl hw;rw[hlen] at this;exact this
open Go.AM Go.AM.BM
theorem Q4b(n:Nat):(IntKind.u32).wrap (n:Int)=((n%4294967296:Nat):Int):=by simp[IntKind.wrap,IntKind.bits,IntKind.signed]
theorem Quz(n:Nat)(h:n<4294967296):(BitVec.ofInt 32 (n:Int)).toNat=n:=by simp[BitVec.toNat_ofInt];omega
theorem addU(a b:Nat):Qc9 .add .u32 a b=some (.int .u32 (Qdd a b:Nat)):=by
 have:((a:Int)+b)=((a+b:Nat):Int):=by omega
 simp only[Qc9];rw[this,Q4b];rfl
theorem xorU(a b:Nat)(ha:a<4294967296)(hb:b<4294967296):Qc9 .xor .u32 a b=some (.int .u32 (Nat.xor a b:Nat)):=by
 have e:(BitVec.ofInt (IntKind.u32).bits (a:Int)^^^BitVec.ofInt (IntKind.u32).bits (b:Int)).toNat=Nat.xor a b:=by show(BitVec.ofInt 32 (a:Int)^^^BitVec.ofInt 32 (b:Int)).toNat=_;rw[BitVec.toNat_xor,Quz a ha,Quz b hb];rfl
 have l:Nat.xor a b<4294967296:=Nat.xor_lt_two_pow (n:=32) ha hb;simp only[Qc9];rw[e,Q4b,Nat.mod_eq_of_lt l]
theorem orU(a b:Nat)(ha:a<4294967296)(hb:b<4294967296):Qc9 .or .u32 a b=some (.int .u32 (Nat.lor a b:Nat)):=by
 have e:(BitVec.ofInt (IntKind.u32).bits (a:Int)|||BitVec.ofInt (IntKind.u32).bits (b:Int)).toNat=Nat.lor a b:=by show(BitVec.ofInt 32 (a:Int)|||BitVec.ofInt 32 (b:Int)).toNat=_;rw[BitVec.toNat_or,Quz a ha,Quz b hb];rfl
 have l:Nat.lor a b<4294967296:=Nat.or_lt_two_pow (n:=32) ha hb;simp only[Qc9];rw[e,Q4b,Nat.mod_eq_of_lt l]
theorem shlU(a k:Nat)(hk:k<32):Qeo .shl .u32 a k=some (.int .u32 (Nat.mod (Nat.shiftLeft a k) 4294967296:Nat)):=by
 have e:min (k:Int).toNat (IntKind.u32).bits=k:=by have:(k:Int).toNat=k:=rfl;rw[this];show min k 32=k;omega
 have e2:(a:Int)*2^k=((Nat.shiftLeft a k:Nat):Int):=by show _=((a<<<k:Nat):Int);rw[Nat.shiftLeft_eq];simp
 simp only[Qeo,e,e2,Q4b];rw[if_neg (by omega)];rfl
theorem shrU(a k:Nat)(hk:k<32):Qeo .shr .u32 a k=some (.int .u32 (Nat.shiftRight a k:Nat)):=by
 have e:min (k:Int).toNat (IntKind.u32).bits=k:=by have:(k:Int).toNat=k:=rfl;rw[this];show min k 32=k;omega
 have e2:(a:Int).fdiv (2^k)=((Nat.shiftRight a k:Nat):Int):=by show _=((a>>>k:Nat):Int);rw[Nat.shiftRight_eq_div_pow,Int.fdiv_eq_ediv_of_nonneg _ (Int.le_of_lt (Int.pow_pos (by decide)))];simp
 simp only[Qeo,e,e2];rw[if_neg (by omega)]
theorem Q2a(x k:Nat)(hx:x<4294967296):Qhz x k<4294967296:=by
 have a:Nat.mod (Nat.shiftLeft x k) 4294967296<4294967296:=Nat.mod_lt _ (by decide);have b:Nat.shiftRight x (32-k)<4294967296:=by have:Nat.shiftRight x (32-k)=x>>>(32-k):=rfl;rw[this,Nat.shiftRight_eq_div_pow];exact Nat.lt_of_le_of_lt (Nat.div_le_self _ _) hx
 exact Nat.or_lt_two_pow (n:=32) a b
theorem Zbi(x k:Nat)(hx:x<4294967296)(hk:k=15\/k=11\/k=9\/k=6):Fz Tp Qf 481 [.int .u32 x,.int .i64 k] fun r=>r= .int .u32 (Qhz x k:Nat):=by
 refine Zp Tryz.func481 rfl ?_;have k32:k<32:=by omega
 have cv:∀g,convertV Tp g 3 197 (.int .i64 k)=some (.val (.int .u64 k) none):=fun g=>by rcases hk with rfl|rfl|rfl|rfl<;>kernel_rfl
 have bA:∀p q,Zj Tp .and 197 p q (.int .u64 k) (.int .u64 31)=some (.int .u64 k):=fun p q=>by rcases hk with rfl|rfl|rfl|rfl<;>rfl
 have bS:∀p q,Zj Tp .sub 197 p q (.int .u64 32) (.int .u64 k)=some (.int .u64 ((32-k:Nat):Int)):=fun p q=>by rcases hk with rfl|rfl|rfl|rfl<;>rfl
 have b1:∀p q,Zj Tp .shl 56 p q (.int .u32 x) (.int .u64 k)=_:=fun p q=>shlU x k k32;have b2:∀p q,Zj Tp .shr 56 p q (.int .u32 x) (.int .u64 ((32-k:Nat):Int))=_:=fun p q=>shrU x (32-k) (by omega);have b3:∀p q,Zj Tp .or 56 p q (.int .u32 (Nat.mod (Nat.shiftLeft x k) 4294967296:Nat)) (.int .u32 (Nat.shiftRight x (32-k):Nat))=_:=fun p q=>orU _ _ (Nat.mod_lt _ (by decide)) (by
  have:Nat.shiftRight x (32-k)=x>>>(32-k):=rfl;rw[this,Nat.shiftRight_eq_div_pow]
  exact Nat.lt_of_le_of_lt (Nat.div_le_self _ _) hx)
 generalize hr:(Nat.lor _ _:Nat)=r at b3;have er:Qhz x k=r:=hr;rw[er];generalize(Nat.mod (Nat.shiftLeft x k) 4294967296:Nat)=u at b1 b3;generalize(Nat.shiftRight x (32-k):Nat)=w at b2 b3;generalize(32-k:Nat)=m at bS b2;simp only[wX,↓Qc,simprocAttr,Tryz.ntmps481,cv,bA,bS,b1,b2,b3];exact W.done (Zc.ret rfl rfl rfl)
def u32(n:Nat):V:= .int .u32 n
def wc(x:W4):List V:=[.int .u32 x.a,.int .u32 x.b,.int .u32 x.c,.int .u32 x.d]
def zW:List V:=[.int .u32 0,.int .u32 0,.int .u32 0,.int .u32 0]
def wok(x:W4):Prop:=x.a<4294967296/\x.b<4294967296/\x.c<4294967296/\x.d<4294967296
theorem Qlf{α:Type}(x:Nat)(k:Nat->α):Qdw x k=k x:=by unfold Qdw;cases x<;>rfl
theorem Qze(far near:Nat)(x:W4):Qg3 far near x=⟨Qdd x.a x.b,Qhz (Nat.xor x.b (Qdd x.c (Qhz (Nat.xor x.d (Qdd x.a x.b)) far))) near,Qdd x.c (Qhz (Nat.xor x.d (Qdd x.a x.b)) far),Qhz (Nat.xor x.d (Qdd x.a x.b)) far⟩:=by unfold Qg3;simp only[Qlf]
theorem Qb5(a b:Nat):Qdd a b<4294967296:=Nat.mod_lt _ (by decide)
theorem Qeq{a b:Nat}(ha:a<4294967296)(hb:b<4294967296):Nat.xor a b<4294967296:=Nat.xor_lt_two_pow (n:=32) ha hb
theorem Qqh{far near:Nat}{x:W4}(h:wok x):wok (Qg3 far near x):=by obtain⟨ha,hb,hc,hd⟩:=h;rw[Qze];have h1:=Q2a _ far (Qeq hd (Qb5 x.a x.b));exact⟨Qb5 _ _,Q2a _ _ (Qeq hb (Qb5 _ _)),Qb5 _ _,h1⟩
theorem ia0(f s:Nat):Qu Tp 351 (.ptr f s 0) (.int .i64 0)=some (.ptr f s 0):=by simp only[Qu,Zu12,Qw2];rfl
theorem ia1(f s:Nat):Qu Tp 351 (.ptr f s 0) (.int .i64 1)=some (.ptr f s 1):=by simp only[Qu,Zu12,Qw2];rfl
theorem ia2(f s:Nat):Qu Tp 351 (.ptr f s 0) (.int .i64 2)=some (.ptr f s 2):=by simp only[Qu,Zu12,Qw2];rfl
theorem ia3(f s:Nat):Qu Tp 351 (.ptr f s 0) (.int .i64 3)=some (.ptr f s 3):=by simp only[Qu,Zu12,Qw2];rfl
theorem Q3c(far near:Nat)(hf:far=15\/far=11\/far=9\/far=6)(hn:near=15\/near=11\/near=9\/near=6)(x:W4)(hx:wok x):
 CW Tp Qf 480 [.int .i64 far,.int .i64 near,.ptr 0 1 0] [[(1,.cells (wc x)),(2,.cells zW)]] fun r H' =>r= .ret (.tuple [])/\H' =[[(1,.cells (wc (Qg3 far near x))),(2,.cells zW)]]:=by
 refine Ye Tryz.func480 rfl ?_;obtain⟨a,b,c,d⟩:=x;obtain⟨ha,hb,hc,hd⟩:=hx;simp only at ha hb hc hd;have bA:∀p q (x y:Nat),Zj Tp .add 56 p q (.int .u32 x) (.int .u32 y)=some (.int .u32 (Qdd x y:Nat)):=fun p q x y=>addU x y;have x1:∀p q,Zj Tp .xor 56 p q (.int .u32 d) (.int .u32 (Qdd a b:Nat))=_:=fun p q=>xorU d _ hd (Qb5 _ _);have l1:=Qeq hd (Qb5 a b);rw[Qze];simp only[wc] at*;generalize(Nat.xor d (Qdd a b):Nat)=d1 at*;obtain⟨m,rfl,hm⟩:=(Zbi d1 far l1 hf).op (by rfl) rfl;have hm' :∀s H,_:=fun s H=>hm 480 1 s H rfl;have l2:=Q2a d1 far l1;generalize(Qhz d1 far:Nat)=d2 at*;have x2:∀p q,Zj Tp .xor 56 p q (.int .u32 b) (.int .u32 (Qdd c d2:Nat))=_:=fun p q=>xorU b _ hb (Qb5 _ _);have l3:=Qeq hb (Qb5 c d2);generalize(Nat.xor b (Qdd c d2):Nat)=b1 at*;obtain⟨m2,rfl,hm2⟩:=(Zbi b1 near l3 hn).op (by rfl) rfl;have hm2' :∀s H,_:=fun s H=>hm2 480 1 s H rfl;generalize(Qhz b1 near:Nat)=b2 at*;simp only[wX,↓Qc,simprocAttr,Tryz.ntmps480,ia0,ia1,ia2,ia3,bA,x1,x2,hm',hm2'];exact W.done (End.normal (v:= .tuple []) rfl ⟨rfl,rfl⟩)
theorem sc_w(x:W4):(wc x).all V.scalar=true:=rfl
theorem ln_w(x:W4):(wc x).length=4:=rfl
theorem rd_w(x:W4):Qr Tp 351 (wc x) 0=some (.agg (wc x)):=by rw[rd351];rfl
theorem sp_w(x y:W4):splice (wc x) 0 (wc y)=wc y:=rfl
theorem sp_z(y:W4):splice zW 0 (wc y)=wc y:=rfl
theorem tk_w(x:W4):(wc x).take 4=wc x:=rfl
theorem ln_z:zW.length=4:=rfl
theorem Q4f(x:W4)(hx:wok x):Fz Tp Qf 453 [.agg (wc x)] fun r=>r= .agg (wc (Qic x)):=by refine Zp Tryz.func453 rfl ?_;obtain⟨r1,K1,e1,rfl,rfl⟩:=Q3c 15 11 (by omega) (by omega) x hx;obtain⟨r2,K2,e2,rfl,rfl⟩:=Q3c 9 6 (by omega) (by omega) _ (Qqh (far:=15) (near:=11) hx);have c1:∀s,AM.callOp Qf (Qq Tp Qf) 453 0 s 480 [.int .i64 15,.int .i64 11,.ptr 0 1 0] [[(1,.cells (wc x)),(2,.cells zW)]]=_:=fun s=>Xs rfl rfl rfl e1;have c2:∀s,AM.callOp Qf (Qq Tp Qf) 453 0 s 480 [.int .i64 9,.int .i64 6,.ptr 0 1 0] [[(1,.cells (wc (Qg3 15 11 x))),(2,.cells zW)]]=_:=fun s=>Xs rfl rfl rfl e2;have ez:([.int .u32 0,.int .u32 0,.int .u32 0,.int .u32 0]:List V)=zW:=rfl;have et:Qic x=Qg3 9 6 (Qg3 15 11 x):=rfl;rw[et];simp only[wX,↓Qc,simprocAttr,Tryz.ntmps453,c1,c2,ez,sc_w,ln_w,rd_w,sp_w,sp_z,ln_z,tk_w];exact W.done (Zc.ret (v:= .agg (wc (Qg3 9 6 (Qg3 15 11 x)))) rfl rfl rfl)
theorem Qps{x:W4}(h:wok x):wok (Qic x):=Qqh (Qqh h)
theorem Qxb(n:Nat)(x:W4):Xy (n+1) x=Xy n (Qic x):=rfl
theorem Qmk:∀(n:Nat) {x:W4},wok x->wok (Xy n x)
 |0,_,h=>h
 |n+1,x,h=>by rw[Qxb];exact Qmk n (Qps h)
theorem Qy6(n:Nat)(hn:n<1000)(x:W4)(hx:wok x):Fz Tp Qf 382 [.agg (wc x),.int .i64 n] fun r=>r= .agg (wc (Xy n x)):=by
 refine Zp Tryz.func382 rfl ?_;have ez:([.int .u32 0,.int .u32 0,.int .u32 0,.int .u32 0]:List V)=zW:=rfl;simp only[wX,↓Qc,simprocAttr,Tryz.ntmps382,ez,sc_w,ln_w,rd_w,sp_w,sp_z,ln_z,tk_w];refine W.ul ?_;refine W.loopS (kt:=[2,4,5,6]) rfl (fun a:Nat×W4=>Q3y (.ptr 0 2 0) (.ptr 0 4 0) (.int .i64 n) (.int .i64 a.1)) (fun a=>[[(2,.cells (wc a.2)),(4,.cells zW)]]) (fun a=>a.1<=n/\wok a.2/\Xy (n-a.1) a.2=Xy n x) (fun a=>n-a.1) ?_ (0,x) ⟨by simp,hx,rfl⟩ rfl rfl;rintro⟨i,y⟩ ⟨hi,hy,he⟩;simp only at hi hy he;simp only[Q3y];by_cases h:i<n
 . have c1:decide ((i:Int)<n)=true:=by simp;omega
   obtain⟨m,rfl,hm⟩:=(Q4f y hy).op (by rfl) rfl;have hm' :∀s H,_:=fun s H=>hm 382 0 s H rfl;have w1:(IntKind.i64).wrap ((i:Int)+1)=((i+1:Nat):Int):=by rw[wrap_i64]<;>omega
   simp only[wX,↓Qc,simprocAttr,c1,hm',w1,sc_w,ln_w,rd_w,sp_w,sp_z,ln_z,tk_w];refine W.done ⟨(i+1,Qic y),rfl,rfl,⟨by simp only;omega,Qps hy,?_⟩,by simp only;omega⟩;rw[<-he];have:n-i=(n-(i+1))+1:=by omega
   simp only;rw[this];rfl
 . have c1:decide ((i:Int)<n)=false:=by simp;omega
   have hn' :n-i=0:=by omega
   rw[hn'] at he;have he' :y=Xy n x:=he;subst he';simp only[wA,↓Qc,simprocAttr,c1];refine W.done ?_;simp only[wX,↓Qc,simprocAttr,c1,sc_w,ln_w,rd_w,sp_w,sp_z,ln_z,tk_w];exact W.done (Zc.ret (v:= .agg (wc (Xy n x))) rfl rfl rfl)
theorem Qsb:byt Tp 5=some 1:=by kernel_rfl
theorem Qvf{l:List UInt8}{f s n e:Nat}(g:Get)(m:Nat):frz g (m+2) (.gS f s (Qb l) n e)=some (.iS (Qb l) n false):=by have:Qx (frz g (m+1)) (Qb l)=some (Qb l):=Qfx _ _ _;show(Qx (frz g (m+1)) (Qb l)).map _=_;rw[this];rfl
theorem frz_ms{g:Get}{f s:Nat}{l:List UInt8}(h:g f s=some (.cells (Qb l)))(m:Nat):frz g (m+2) (.mS f s 0 l.length none 1)=some (.iS (Qb l) l.length false):=by
 have e:Qx (frz g (m+1)) (Qb l)=some (Qb l):=Qfx _ _ _;have t:((Qb l).drop 0).take (l.length*1)=Qb l:=by rw[Zr1,Zp7];exact Zr8 (by rw[Za];exact Zpp _)
 show(match g f s with
  |some (.cells xs)=>if 0+l.length*1<=xs.length then(Qx (frz g (m+1)) ((xs.drop 0).take (l.length*1))).map fun cs=>V.iS cs l.length ((none:Option Nat)==some l.length) else none
  |_=>none)=_
 rw[h];rw[Zp7] at t;simp only[Zp7,t,e,Zpw,Za,Zpp,if_true];rfl
theorem scl_fz(v:V)(l:List UInt8)(hv:Qk v l)(hl:l.length<=1048576):Fz Tp Qf 21 [v] fun r=>Qk r l:=by
 refine Zp Tryz.func21 rfl ?_;by_cases hn:v= .nS
 . subst hn;have h0:l=[]:=by
    obtain⟨hlen,⟨_,h⟩|⟨f,h⟩⟩:=hv
    . exact Zqh h
    . cases h
   subst h0;have e:∀p q,Zj Tp .eql 23 p q .nS .nS=some (.bool true):=fun p q=>rfl;simp only[wX,↓Qc,simprocAttr,Tryz.ntmps21,e];exact W.done (Zc.ret rfl rfl Qk.nil)
 . have hv' :=hv;obtain⟨hlen,⟨h,_⟩|⟨f,rfl⟩⟩:=hv
   . exact absurd h hn
   have sc:=Qv.sc (g:=Qd [[]]) hv';have mt7:Qf.mt 21 7=true:=rfl;have mt5:Qf.mt 21 5=true:=rfl;have g5:Qd [[(5,O.cells [])]] 0 5=some (.cells []):=rfl;by_cases h0:l=[]
   . subst h0;have ap:Qp Tp (Qf.mt 21) 0 (Qd [[(5,O.cells [])]]) (some 7) 23 23 (.mS 0 5 0 0 (some 0) 1) (.iS (Qb []) 0 f)=some (.val (.mS 0 5 0 0 (some 0) 1) none):=
      Qfd Zu0 sz5 Qsb zc5 rfl Zu0 rfl (Qv.sc hv')
     simp only[wX,↓Qc,simprocAttr,Tryz.ntmps21,Je Zu0,mt5,Q3,ap,Zu0,Zq4];exact W.done (Zc.ret (v:= .mS 0 5 0 0 (some 0) 1) (v' := .iS [] 0 true) rfl rfl (Qv.mk (cells:=[]) rfl))
   . have n7:Qd [[(5,O.cells [])]] 0 7=none:=rfl;have sc9:∀g,Qj g 1 (.iS (Qb l) l.length f)=some (Qb l,l.length):=fun g=>Qv.sc hv';have ap:Qp Tp (Qf.mt 21) 0 (Qd [[(5,O.cells [])]]) (some 7) 23 23 (.mS 0 5 0 0 (some 0) 1) (.iS (Qb l) l.length f)=some (.val (.mS 0 7 0 l.length none 1) (some (0,7,.cells (Qb l)))):=by
      have hp:0<l.length:=List.length_pos_iff.2 h0;have zl:zeroCells Tp 5=some _:=zc5;have gm:=Qez (mt:=Qf.mt 21) (g:=Qd [[(5,O.cells [])]]) (fr:=0) (d:=7) (cs:=Qb l) (m:=l.length) (n:=1) (chk:=Qb l) mt7 (Z5 l) n7;generalize Qb l=cs at*;generalize l.length=n at*;obtain⟨m,rfl⟩:∃m,n=m+1:=⟨n-1,by omega⟩;have r1:J6 (m+1) 1=true:=Jg (by omega) (by omega);simp only[Qp,Zu0,sz5,Qsb,zl,Jp,sc9,appendTo,g5];simpa [r1] using gm
     simp only[wX,↓Qc,simprocAttr,Tryz.ntmps21,Je Zu0,mt5,Q3,ap,Zu0];exact W.done (Zc.ret (v:= .mS 0 7 0 l.length none 1) rfl (frz_ms rfl 10) (Qk.mk l false))
theorem Zcl(v:V)(l:List UInt8)(hv:Qk v l)(hl:l.length<=1048576):Fz Tp Qf 380 [v] fun r=>Qk r l/\(r= .nS\/∃c n,r= .iS c n true):=by
 refine Zp Tryz.func380 rfl ?_;have len:=hv.len Zu0;have h2:∃w,(∀g,Z9 Tp g 23 v none (some (.int .i64 l.length)) (some (.int .i64 l.length))=some w)/\Qk w l/\(w= .nS\/∃c n,w= .iS c n true):=by
  have ol:∀x:Nat,By (some (.int .i64 x))=some (some (x:Int)):=fun x=>rfl;obtain⟨hl',⟨rfl,h0⟩|⟨f,rfl⟩⟩:=hv
  . have e:l=[]:=Zqh h0;subst e;refine⟨.nS,fun g=>?_,Qk.nil,.inl rfl⟩;simp only[Z9,ol,Zu0,sz5,Qat];rfl
  . refine⟨.iS (Qb l) l.length true,fun g=>?_,Qk.mk _ _,.inr ⟨_,_,rfl⟩⟩;have on:By none=some none:=rfl;simp only[Z9,ol,on,Zu0,sz5,Qn6,hl',if_true,Qat,Zqs,Zqi];rw[if_pos ⟨by omega,by omega,by omega,by omega,by omega,by omega,by simp⟩];have:((Qb l).take l.length)=Qb l:=Zr8 (by rw[Za];exact Zpp _);simp[this]
 obtain⟨w,sl,hw,hc⟩:=h2;simp only[wX,↓Qc,simprocAttr,Tryz.ntmps380,len,sl];exact W.done (Zc.ret (v:=w) rfl (hw.frz _) ⟨hw,hc⟩)
def Qbc(l:List UInt8)(k:Nat):List UInt8:=l++1::List.replicate k 0
theorem Qd5(l:List UInt8)(k:Nat):(Qbc l k).length=l.length+1+k:=by simp[Qbc];omega
theorem Q48(l:List UInt8)(k:Nat):Qbc l k++[0]=Qbc l (k+1):=by simp[Qbc,List.replicate_succ']
def Qjc(y:W4)(p:List UInt8):W4:=Xy 4 ⟨Nat.xor y.a (Yr (p.take 4)),y.b,Nat.xor y.c (Yr (p.drop 4)),y.d⟩
def Qex(l:List UInt8):Nat->W4
 |0=>⟨1,2,3,4⟩
 |j+1=>Qjc (Qex l j) ((l.drop (8*j)).take 8)
theorem Q39{l:List UInt8}(h:l.length=4):Yr l<4294967296:=by have:=Qol l;rw[h] at this;exact this
theorem Q85{y:W4}{p:List UInt8}(hy:wok y)(hp:p.length=8):wok (Qjc y p):=by obtain⟨h1,h2,h3,h4⟩:=hy;exact Qmk 4 ⟨Qeq h1 (Q39 (by simp;omega)),h2,Qeq h3 (Q39 (by simp;omega)),h4⟩
theorem Q3n(z:W4)(n:Nat)(T:List V){G:AM.Heap}(hr:Qh (fun f _=>Nat.ble 1 f) T=false)(hG:G=[[]]\/G=[]):WF ([[(2,.cells zW),(3,.cells [.int .u32 z.a,.int .u32 z.b,.int .u32 z.c,.int .u32 z.d]),(11,.grow n),(1000006,.loop 0 none 277 6 T)]]++G):=by
 have h2:WF [[(2,.cells zW),(3,.cells [.int .u32 z.a,.int .u32 z.b,.int .u32 z.c,.int .u32 z.d]),(11,.grow n),(1000006,.loop 0 none 277 6 T)]]:=by have h0:(O.loop 0 none 277 6 T).refs (fun f _=>Nat.ble 1 f)=false:=hr;show Zb (fun f _=>Nat.ble 1 f) _=true;simp only[Zb,Q0,h0];rfl
 rcases hG with rfl|rfl
 . exact h2.app rfl
 . exact h2
theorem Q00(y:W4)(hy:wok y)(n:Nat)(T:List V)(hT:T.length=47)(h3:T.getD 3 .bad= .ptr 0 3 0)(hr:Qh (fun f _=>Nat.ble 1 f) T=false)(w:V)(p:List UInt8)(hw:Qk w p)(hp:p.length=8):
 Qq Tp Qf none [.yield 0 1000006,w] ([[(2,.cells zW),(3,.cells (wc y)),(11,.grow n),(1000006,.loop 0 none 277 6 T)]]++[[]])=some (.ret (.bool true),[[(2,.cells zW),(3,.cells (wc (Qjc y p))),(11,.grow n),(1000006,.loop 0 none 277 6 T)]]++[[]]):=by
 obtain⟨r,H3,h1,rfl,rfl⟩:=Qy5 (P:=Tp) (pol:=Qf) (fo:=0) (so:=1000006) (args:=[w]) (H:=[[(2,.cells zW),(3,.cells (wc y)),(11,.grow n),(1000006,.loop 0 none 277 6 T)],[]]) (p:=none) (fL:=277) (rid:=6) (t0:=T)
  (R:=fun r H3=>r= .ret (.bool true)/\H3=[[(2,.cells zW),(3,.cells (wc (Qjc y p))),(11,.grow n),(1000006,.loop 0 none 277 6 T)],[]]) rfl (Qtt Tryz.func277 rfl rfl) rfl (by
    change W (U _ _ _ _ _ _ _ .normal (T.set 21 _) _) _;have hy' :=hy;obtain⟨ya,yb,yc,yd⟩:=hy';obtain⟨w1,sl1,hw1⟩:=hw.cut (P:=Tp) Zu0 sz5 none (some 4) (by simp) (by simp) (by simp only[Zqs];omega);obtain⟨w2,sl2,hw2⟩:=hw.cut (P:=Tp) Zu0 sz5 (some 4) none (by simp) (by simp only[Zqs,Zqi];omega) (by simp);have e1:(p.drop ((none:Option Int).getD 0).toNat).take (((some (4:Int)).getD p.length).toNat-((none:Option Int).getD 0).toNat)=p.take 4:=by simp
    have e2:(p.drop ((some (4:Int)).getD 0).toNat).take (((none:Option Int).getD p.length).toNat-((some (4:Int)).getD 0).toNat)=p.drop 4:=by simp only[Zqs,Zqi,Int.toNat_natCast];rw[Zr8 (by simp)];rfl
    rw[e1] at hw1;rw[e2] at hw2;simp only[Zpl,Zq9] at sl1 sl2;obtain⟨m1,rfl,hm1⟩:=(Qts w1 _ hw1 (by simp;omega)).op (by rfl) (Qa (hw1.frz _) rfl);obtain⟨m2,rfl,hm2⟩:=(Qts w2 _ hw2 (by simp;omega)).op (by rfl) (Qa (hw2.frz _) rfl);have hm1' :∀s H,_:=fun s H=>hm1 277 2 s H rfl;have hm2' :∀s H,_:=fun s H=>hm2 277 2 s H rfl;have l1:Yr (p.take 4)<4294967296:=Q39 (by simp;omega);have l2:Yr (p.drop 4)<4294967296:=Q39 (by simp;omega);have b1:∀a b,Zj Tp .xor 56 a b (.int .u32 y.a) (.int .u32 (Yr (p.take 4)))=_:=fun a b=>xorU y.a _ ya l1;have b2:∀a b,Zj Tp .xor 56 a b (.int .u32 y.c) (.int .u32 (Yr (p.drop 4)))=_:=fun a b=>xorU y.c _ yc l2;have x1:=Qeq ya l1;have x2:=Qeq yc l2;have es:Qjc y p=Xy 4 ⟨Nat.xor y.a (Yr (p.take 4)),y.b,Nat.xor y.c (Yr (p.drop 4)),y.d⟩:=rfl;rw[es];generalize(Nat.xor y.a (Yr (p.take 4)):Nat)=xa at*;generalize(Nat.xor y.c (Yr (p.drop 4)):Nat)=xc at*;generalize(Yr (p.take 4):Nat)=n1 at*;generalize(Yr (p.drop 4):Nat)=n2 at*;obtain⟨m3,rfl,hm3⟩:=(Qy6 4 (by omega) ⟨xa,y.b,xc,y.d⟩ ⟨x1,yb,x2,yd⟩).op (by rfl) rfl;have hm3' :∀s H,AM.callOp Qf (Qq Tp Qf) 277 2 s 382 [.agg [.int .u32 xa,.int .u32 y.b,.int .u32 xc,.int .u32 y.d],.int .i64 4] H=_:=fun s H=>hm3 277 2 s H rfl;generalize Xy 4 ⟨xa,y.b,xc,y.d⟩=z at*;obtain⟨c,d,e,f⟩:=y;simp only[wc] at*;simp only[wX,↓Qc,simprocAttr,Qtr,Quc,Zqx,hT,h3,Nat.reduceBEq];refine W.done ⟨rfl,none,277,6,T,rfl,?_⟩;simp only[wX,↓Qc,simprocAttr,Qtr,Quc,Zqx,hT,h3,Nat.reduceBEq,ia0,ia1,ia2,ia3,sl1,sl2,hm1',hm2',hm3',b1,b2];refine W.opsK (by kernel_rfl) ?_;simp only[wX,↓Qc,simprocAttr,Qtr,Quc,Zqx,hT,h3,Nat.reduceBEq,ia0,ia1,ia2,ia3,sl1,sl2,hm1',hm2',hm3',b1,b2];refine W.opsK (by kernel_rfl) ?_;simp only[wX,↓Qc,simprocAttr,Qtr,Quc,Zqx,hT,h3,Nat.reduceBEq,ia0,ia1,ia2,ia3,sl1,sl2,hm1',hm2',hm3',b1,b2];refine W.done ⟨_,_,rfl,rfl,?_⟩
    exact Br (H:=[[(2,.cells zW),(3,.cells [.int .u32 z.a,.int .u32 z.b,.int .u32 z.c,.int .u32 z.d]),(11,.grow n),(1000006,.loop 0 none 277 6 T)],[]]) (G:=[[]]) rfl (Q3n z n T hr (.inl rfl)))
 exact h1
theorem Qgs(p:Nat->Nat->Bool):∀l:List UInt8,Qh p (Qb l)=false
 |[]=>rfl
 |b::l=>by
  have:=Qgs p l;simp only[Qb,Zp4,Qh,V.refs,Zqr] at this⊢;exact this
theorem Qli{l:List UInt8}:∀{j:Nat},8*j<=l.length->wok (Qex l j)
 |0,_=>(show wok ⟨1,2,3,4⟩ from⟨by decide,by decide,by decide,by decide⟩)
 |j+1,h=>Q85 (Qli (by omega)) (by simp;omega)
theorem Q4n(v:V)(l:List UInt8)(hv:Qk v l)(hl:l.length<=2097152)(m:Nat)(hm:l.length=8*m)(n:Nat)(T:List V)(hT:T.length=47)(h3:T.getD 3 .bad= .ptr 0 3 0)(hr:Qh (fun f _=>Nat.ble 1 f) T=false):
 CW Tp Qf 278 [.yield 0 1000006,.iptr [v] 0,.iptr [.int .i64 8] 0] [[(2,.cells zW),(3,.cells (wc ⟨1,2,3,4⟩)),(11,.grow n),(1000006,.loop 0 none 277 6 T)]] fun r H' =>r= .ret (.tuple [])/\H' =[[(2,.cells zW),(3,.cells (wc (Qex l m))),(11,.grow n),(1000006,.loop 0 none 277 6 T)]]:=
 Q8n v l hv (by omega) 8 (by omega) (by omega) m hm 0 1000006 (fun j=>[[(2,.cells zW),(3,.cells (wc (Qex l j))),(11,.grow n),(1000006,.loop 0 none 277 6 T)]]) (fun _=>rfl) (Q3n _ n T hr (.inr rfl))
  (fun j hj w hw=>Q00 (Qex l j) (Qli (by omega)) n T hT h3 hr w _ hw (by simp;omega))
def Kz(n:Nat):Nat:=(8-(n+1)%8)%8
def Qbh(l:List UInt8):W4:=
 let y:=Qex (Qbc l (Kz l.length)) ((l.length+1+Kz l.length)/8)
 Xy 8 ⟨y.a,Nat.xor y.b l.length,y.c,y.d⟩
theorem Q3m(v:V)(l:List UInt8)(hv:Qk v l)(hl:l.length<=1048576):Fz Tp Qf 277 [v] fun r=>r= .agg (wc (Qbh l)):=by
 refine Zp Tryz.func277 rfl ?_;obtain⟨v1,hv1,hm1⟩:=(scl_fz v l hv hl).op (by rfl) (Qa (hv.frz _) rfl);have hm1' :∀s H,_:=fun s H=>hm1 277 0 s H rfl;obtain⟨v2,⟨hv2,hc2⟩,hm2⟩:=(Zcl v1 l hv1 hl).op (by rfl) (Qa (hv1.frz _) rfl);have hm2' :∀s H,_:=fun s H=>hm2 277 0 s H rfl;have ez:([.int .u32 0,.int .u32 0,.int .u32 0,.int .u32 0]:List V)=zW:=rfl;have ew:([.int .u32 1,.int .u32 2,.int .u32 3,.int .u32 4]:List V)=wc ⟨1,2,3,4⟩:=rfl;have dz:zW.drop 4=[]:=rfl;have bv:Bl Tp 351 [(0,.int .u32 1),(1,.int .u32 2),(2,.int .u32 3),(3,.int .u32 4)]=some (.agg (wc ⟨1,2,3,4⟩)):=by kernel_rfl
 have mt:∀s,s<2000000->Qf.mt 277 s=false:=fun s h=>Qej h rfl;have sc1:∀g,Qj g 1 (.iS [.int .u8 1] 1 true)=some ([.int .u8 1],1):=fun g=>rfl;have pe:Qb l++[.int .u8 1]=Qb (Qbc l 0):=by simp[Qbc,Qb]
 have ap:Qp Tp (Qf.mt 277) 0 (Qd [[(2,.cells zW),(3,.cells (wc ⟨1,2,3,4⟩))]]) (some 11) 23 23 v2 (.iS [.int .u8 1] 1 true)=some (.val (.gS 0 11 (Qb (Qbc l 0)) (l.length+1) 1) (some (0,11,.grow (l.length+1)))):=by
  have len2:=hv2;rcases hc2 with rfl|⟨c,n,rfl⟩
  . have h0:l=[]:=by
     obtain⟨hlen,⟨_,h⟩|⟨f,h⟩⟩:=hv2
     . exact Zqh h
     . cases h
    subst h0;rw[Qbu Zu0 sz5 Qsb zc5 rfl Zu0 (sc1 _) (by omega) (by decide),Bc (mt _ (by decide)) rfl rfl];rfl
  . obtain⟨hlen,⟨h,_⟩|⟨f,h⟩⟩:=hv2
    . cases h
    . cases h;rw[Qpx Zu0 sz5 Qsb zc5 rfl Zu0 (sc1 _) (by omega) hlen (Jg (by omega) (by omega)),Bc (mt _ (by decide)) rfl rfl,pe]
 simp only[wX,↓Qc,simprocAttr,Tryz.ntmps277,hm1',hm2',ez,ew,mt,Q3,ap,sc_w,ln_w,Zu0,bv,ln_z,dz];refine W.ul ?_;refine W.loopS (kt:=[0,2,3,4]) rfl (fun k:Nat=>Q35 v (.ptr 0 2 0) (.ptr 0 3 0) (.gS 0 11 (Qb (Qbc l k)) (l.length+1+k) 1)) (fun k=>[[(2,.cells zW),(3,.cells (wc ⟨1,2,3,4⟩)),(11,.grow (l.length+1+k))]]) (fun k=>k<=Kz l.length) (fun k=>Kz l.length-k) ?_ 0 (Zr9 _) rfl rfl;intro k hk;have pn:Kz l.length<8:=Nat.mod_lt _ (by decide);simp only[Q35];have lg:∀g,B0 Tp g 23 (.gS 0 11 (Qb (Qbc l k)) (l.length+1+k) 1)=some (.int .i64 ((l.length+1+k:Nat):Int)):=len_g Zu0;have rm:∀a b,Zj Tp .rem 3 a b (.int .i64 ((l.length+1+k:Nat):Int)) (.int .i64 8)=some (.int .i64 (((l.length+1+k)%8:Nat):Int)):=fun a b=>by
  have e:((l.length+1+k:Nat):Int).tmod 8=(((l.length+1+k)%8:Nat):Int):=by rw[Int.tmod_eq_emod_of_nonneg (by omega)];omega
  rw[<-e];rfl
 by_cases h:k<Kz l.length
 . have c1:((((l.length+1+k)%8:Nat):Int) !=0)=true:=by
    have:(l.length+1+k)%8≠0:=by unfold Kz at h pn;omega
    simp only[bne_iff_ne,ne_eq];omega
   generalize hN:(l.length+1+k:Nat)=N at*;have pk:Qb (Qbc l k)++[.int .u8 0]=Qb (Qbc l (k+1)):=by rw[<-Q48,Y5];rfl
   have ap2:Qp Tp (Qf.mt 277) 0 (Qd [[(2,.cells zW),(3,.cells (wc ⟨1,2,3,4⟩)),(11,.grow N)]]) (some 18) 23 23 (.gS 0 11 (Qb (Qbc l k)) N 1) (.iS [.int .u8 0] 1 true)=some (.val (.gS 0 11 (Qb (Qbc l (k+1))) (N+1) 1) (some (0,11,.grow (N+1)))):=by rw[Qca Zu0 sz5 Qsb zc5 rfl Zu0 (cs:=[.int .u8 0]) (m:=1) rfl (by omega) (Jg (by omega) (by omega)) rfl rfl rfl,pk]
   simp only[wX,↓Qc,simprocAttr,mt,Q3,lg,rm,c1,Zu0,ap2];have eN:N+1=l.length+1+(k+1):=by omega
   refine W.done ⟨k+1,?_,?_,by omega,by omega⟩
   . rw[<-eN];rfl
   . rw[<-eN]
 . have hk' :k=Kz l.length:=by omega
   subst hk';have c1:((((l.length+1+Kz l.length)%8:Nat):Int) !=0)=false:=by
    have:(l.length+1+Kz l.length)%8=0:=by unfold Kz;omega
    rw[this];rfl
   have hv3:Qk (.iS (Qb (Qbc l (Kz l.length))) (l.length+1+Kz l.length) false) (Qbc l (Kz l.length)):=by have:=Qk.mk (Qbc l (Kz l.length)) false;rwa[Qd5] at this
   have m8:l.length+1+Kz l.length=8*((l.length+1+Kz l.length)/8):=by unfold Kz;omega
   have pl:=Qd5 l (Kz l.length);obtain⟨m3,rfl,hm3⟩:=(Q8v _ _ hv3 8 (by omega)).op' (args:=[.gS 0 11 (Qb (Qbc l (Kz l.length))) (l.length+1+Kz l.length) 1,.int .i64 8]) (by rfl) (Qa (Qvf _ _) rfl);have hm3' :∀s H,_:=fun s H=>hm3 277 0 s H rfl;have fe:Qbh l=Xy 8 ⟨(Qex (Qbc l (Kz l.length)) ((l.length+1+Kz l.length)/8)).a,Nat.xor (Qex (Qbc l (Kz l.length)) ((l.length+1+Kz l.length)/8)).b l.length,(Qex (Qbc l (Kz l.length)) ((l.length+1+Kz l.length)/8)).c,(Qex (Qbc l (Kz l.length)) ((l.length+1+Kz l.length)/8)).d⟩:=rfl;rw[fe];generalize hN:(l.length+1+Kz l.length:Nat)=N at*;generalize Qbc l (Kz l.length)=L at*;have ok:=Qli (l:=L) (j:=N/8) (by omega);have lp:=fun T=>Q4n _ L hv3 (by omega) (N/8) (by omega) N T;generalize Qex L (N/8)=y at*;simp only[wX,↓Qc,simprocAttr,mt,Q3,lg,rm,c1,Zu0];refine W.done ?_;simp only[wX,↓Qc,simprocAttr,mt,Q3,lg,rm,c1,Zu0,hm3'];refine W.rfunc (rid:=6) rfl rfl rfl ?_;refine(lp _ rfl rfl ?_).mono ?_
   . simp only[Qh,V.refs,hv.noRefs,Qgs];rfl
   rintro r H2 ⟨rfl,rfl⟩;refine⟨_,rfl,?_⟩;rw[Qoy (st:=0) (f:=277) (r:=6) rfl (by decide) (by simp only[Qh,V.refs,hv.noRefs,Qgs];rfl) rfl];have hH:∀T,List.modify [[(2,O.cells zW),(3,.cells (wc y)),(11,.grow N),(1000006,.loop 0 none 277 6 T)]] 0 (Jk fun x=>[Q8 6].contains x)=[[(2,.cells zW),(3,.cells (wc y)),(11,.grow N)]]:=fun T=>rfl;rw[hH];obtain⟨c,d,e,f⟩:=y;obtain⟨yc,yd,ye,yf⟩:=ok;have len:=hv.len Zu0;have cv:∀g,convertV Tp g 3 56 (.int .i64 l.length)=some (.val (.int .u32 l.length) none):=fun g=>by
    simp only[convertV,Zu3,Zu9];have:(IntKind.u32).wrap (l.length:Int)=l.length:=by rw[IntKind.wrap_u32];omega
    simp only[this]
   have ll:l.length<4294967296:=by omega
   have b1:∀a b,Zj Tp .xor 56 a b (.int .u32 d) (.int .u32 l.length)=_:=fun a b=>xorU d _ yd ll;have x1:=Qeq yd ll;simp only at x1 yc ye yf⊢;generalize(Nat.xor d l.length:Nat)=x at*;obtain⟨m4,rfl,hm4⟩:=(Qy6 8 (by omega) ⟨c,x,e,f⟩ ⟨yc,x1,ye,yf⟩).op (by rfl) rfl;have hm4' :∀s H,AM.callOp Qf (Qq Tp Qf) 277 0 s 382 [.agg [.int .u32 c,.int .u32 x,.int .u32 e,.int .u32 f],.int .i64 8] H=_:=fun s H=>hm4 277 0 s H rfl;have sz4:∀w:W4,splice zW 0 (wc w)=wc w:=fun w=>rfl;generalize Xy 8 ⟨c,x,e,f⟩=z at*;have wz:wc ⟨c,d,e,f⟩=[.int .u32 c,.int .u32 d,.int .u32 e,.int .u32 f]:=rfl;rw[wz];simp only[wX,↓Qc,simprocAttr,ia0,ia1,ia2,ia3,len,cv,b1,hm4',sc_w,ln_w,rd_w,sp_w,sp_z,ln_z,tk_w,dz];exact W.done (Zc.ret (v:= .agg (wc z)) rfl rfl rfl)
theorem sum_cw(v:V)(l:List UInt8)(hv:Qk v l)(hl:l.length<=1048576):CW Tp Qf 175 [v] [] fun r _=>r= .ret (.int .u32 (Qbh l).a):=by
 refine Ye Tryz.func175 rfl ?_;obtain⟨m,rfl,hm⟩:=(Q3m v l hv hl).op (by rfl) (Qa (hv.frz _) rfl);have hm' :∀s H,_:=fun s H=>hm 175 0 s H rfl;have ix:Qf7 Tp 351 (.agg (wc (Qbh l))) (.int .i64 0)=some (.int .u32 (Qbh l).a):=by simp only[Qf7,Zu12,Qw2];rfl
 generalize Qbh l=z at*;simp only[wX,↓Qc,simprocAttr,Tryz.ntmps175,hm',ix];exact W.done (End.ret (v:= .int .u32 z.a) rfl rfl)
def Qnt:List UInt8->Nat->W4->W4
 |_,0,x=>x
 |L,m+1,x=>Qnt (L.drop 8) m (Qjc x (L.take 8))
theorem Qpa:∀(j:Nat) (L:List UInt8) (x:W4),Qnt L (j+1) x=Qjc (Qnt L j x) ((L.drop (8*j)).take 8)
 |0,L,x=>rfl
 |j+1,L,x=>by
  have:=Qpa j (L.drop 8) (Qjc x (L.take 8));rw[Qnt,this,Zq5,show 8+8*j=8*(j+1) by omega];rfl
theorem Q3f:∀(j:Nat) (L:List UInt8),Qex L j=Qnt L j ⟨1,2,3,4⟩
 |0,L=>rfl
 |j+1,L=>by rw[Qpa,Qex,Q3f j L]
theorem Qtw:∀(m n:Nat) (L:List UInt8) (x:W4),L.length=8*m->m<=n->Qlb n (Qb L) x=Qnt L m x
 |0,n,L,x,h,_=>by
  have:L=[]:=Zqh h;subst this;cases n<;>rfl
 |m+1,n,L,x,h,hn=>by
  obtain⟨n,rfl⟩:∃k,n=k+1:=⟨n-1,by omega⟩
  match L,h with
  |a::b::c::d::e::f::g::i::r,h=>
   have ih:=Qtw m n r (Qjc x [a,b,c,d,e,f,g,i]) (by simp only[Zq2] at h;omega) (by omega);have e1:Qnt (a::b::c::d::e::f::g::i::r) (m+1) x=Qnt r m (Qjc x [a,b,c,d,e,f,g,i]):=rfl;have e2:Qlb (n+1) (Qb (a::b::c::d::e::f::g::i::r)) x=Qdw (Nat.xor x.a (Yr [a,b,c,d])) fun p=>Qdw (Nat.xor x.c (Yr [e,f,g,i])) fun q=>Qlb n (Qb r) (Xy (nat_lit 4) ⟨p,x.b,q,x.d⟩):=rfl;rw[e1,<-ih,e2,Qlf,Qlf];rfl
  |[],h=>simp at h
  |[_],h=>simp at h;omega
  |[_,_],h=>simp at h;omega
  |[_,_,_],h=>simp at h;omega
  |[_,_,_,_],h=>simp at h;omega
  |[_,_,_,_,_],h=>simp at h;omega
  |[_,_,_,_,_,_],h=>simp at h;omega
  |[_,_,_,_,_,_,_],h=>simp at h;omega
theorem Qw1(l:List UInt8):Qm5 (Qb l)=Qbh l:=by
 have hp:pad8 (Qb l)=Qb (Qbc l (Kz l.length)):=by simp[pad8,Qbc,Kz,Qb]
 have m8:l.length+1+Kz l.length=8*((l.length+1+Kz l.length)/8):=by unfold Kz;omega
 have pn:Kz l.length<8:=Nat.mod_lt _ (by decide);have h:=Qtw ((l.length+1+Kz l.length)/8) (l.length+1) (Qbc l (Kz l.length)) ⟨1,2,3,4⟩ (by rw[Qd5];exact m8) (by omega);have e:Qm5 (Qb l)=(match Qlb ((Qb l).length+1) (pad8 (Qb l)) ⟨1,2,3,4⟩ with
  |x=>Xy 8 ⟨x.a,Nat.xor x.b (Qb l).length,x.c,x.d⟩):=rfl
 rw[e,hp,Za,h,<-Q3f];rfl
theorem Zdn(ys:List V)(v:V)(h:kSum ys=some v):FzN Tp Qf 175 ys v:=by
 unfold kSum at h;split at h
 case h_2=>cases h
 rename_i x;split at h
 case h_2=>cases h
 rename_i c hc;cases h;obtain⟨l,rfl,hb,hl⟩:=Qim hc;obtain⟨r,H,e1,rfl⟩:=sum_cw x l hb hl;rw[Qw1];exact⟨_,_,e1,rfl⟩
end
section
set_option maxRecDepth 100000
open Go.AM
attribute [local irreducible] U W
structure Qf5(bv wv sv:V)(bl:List (List UInt8))(wl:List (Int×List UInt8))(sp:List UInt8):Prop where
 blocks:Kf bv bl
 waits:Xh wv wl
 space:Qk sv sp
 b1:bl.length<=Xc
 w1:wl.length<=Xc
 w0:∀w∈wl,-9223372036854775808<=w.1/\w.1<=9223372036854775807
abbrev Qda(bv wv sv:V)(e c:Int):V:= .agg [bv,wv,sv,.int .u32 e,.int .u32 c]
theorem Qe5{bv wv sv:V}{bl wl sp}(h:Qf5 bv wv sv bl wl sp)(e c:Int)(g:Get):frz g depth (Qda bv wv sv e c)=some (Qda bv wv sv e c):=by obtain⟨bcs,hbc,hbv⟩:=h.blocks;obtain⟨wcs,hwc,hwv⟩:=h.waits;show Option.map V.agg (Qx (AM.frz _ 11) [bv,wv,sv,.int .u32 e,.int .u32 c])=_;rw[Qa (hbv.frz 10) (Qa (hwv.frz 10) (Qa (h.space.frz 10) (Qa rfl (Qa rfl rfl))))];rfl
end
end Go.Proofs.YtpdimkonjmoadaaGreatDoor
end
