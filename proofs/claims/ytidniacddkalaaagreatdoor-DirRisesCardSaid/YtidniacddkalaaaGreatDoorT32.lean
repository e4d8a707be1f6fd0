/- This file holds in one the texts D5, D6, D7, D8, D9, E1; each says at its head what it proves. -/
import Derived.Test.YtidniacddkalaaaGreatDoorT17
import Derived.Test.YtidniacddkalaaaGreatDoorT29
import Derived.Test.YtidniacddkalaaaGreatDoorT30
import Derived.Test.YtidniacddkalaaaGreatDoorT31
set_option linter.unusedSimpArgs false
set_option linter.unusedVariables false
namespace Go.Proofs.YtidniacddkalaaaGreatDoor
section
set_option maxRecDepth 100000
open Go.AM
attribute [local irreducible] U W
theorem Zbe(a:Int)(h0:0<=a)(h1:a<256):Fz Tryz.prog Qg 135 [.int .i64 a] fun x=>x= .bool true:=by
 refine Qw Tryz.func135 rfl ?_;have cv:∀g,convertV Tryz.prog g 3 160 (.int .i64 a)=some (.val (.int .u64 a) none):=fun g=>by
  have w:(IntKind.u64).wrap a=a:=by simp only[IntKind.wrap,IntKind.bits,IntKind.signed,Zt8,Zre,if_false];omega
  simp only[convertV,Tryz.underlying3,Tryz.underlying160,w]
 have c1:decide (a<256)=true:=Zum h1;simp only[wA,↓Qc,simprocAttr,Tryz.ntmps135,cv,c1];exact W.done (Qk.ret rfl rfl rfl)
theorem Zaq(rv:List V)(fl:Bool)(r:Nat->List V)(hl:rv.length=256)(hr:∀i,i<256->∃f,rv[i]?=some (.iS (r i) 256 f))(wv:V)(cs:List V)(n:Nat)(hv:Q0 2 wv cs n)(hn:n<=4096)(a:Nat->Int)(d:Nat->List V)
 (hwait:∀j,j<n->cs[2*j]?=some (.int .i64 (a j))/\∃fl,cs[2*j+1]?=some (.iS (d j) 256 fl))(ha:∀j,j<n->0<=a j/\a j<256):
 CW Tryz.prog Qg 112 [.agg [.iS rv 256 fl,wv]] [] fun x _=>x= .ret (.int .i64 0):=by
 refine Kb Tryz.func112 rfl ?_;have hs:Q0 1 (.iS rv 256 fl) rv 256:=Q0.mk (by rw[hl]);have lw:=hv.len Tryz.underlying23;have wsc:wv.scalar=true:=Qlf hv;have c4:decide ((n:Int)<=4096)=true:=Zum (by omega);have e256:(((256:Nat):Int)==256)=true:=rfl;have ldr:∀i:Nat,i<256->∃f,∀g,ldV Tryz.prog 26 g (.iptr rv ((i:Int).toNat*1))=some (.iS (r i) 256 f):=fun i hi=>by
  obtain⟨f,hf⟩:=hr i hi;refine⟨f,fun g=>?_⟩;have e:(i:Int).toNat*1=i:=by omega
  rw[e];show Qn Tryz.prog 26 rv i=_;rw[rd26,hf]
 simp only[wA,↓Qc,simprocAttr,Tryz.ntmps112,ta,wH,wB,wsc,lw,c4,e256];refine W.ul ?_;refine W.loopS (kt:=[1,3,19,20,21]) rfl (fun i:Nat=>Qif (.ptr 0 1 0) (.bool true) (.iS rv 256 fl) (.int .i64 ((256:Nat):Int)) (.int .i64 i)) (fun i=>[[(1,.cells [.iS rv 256 fl,wv])]]) (fun i=>i<=256) (fun i=>256-i) ?_ 0 (by omega) rfl rfl;rintro i hi;simp only[Qif];by_cases h:i<256
 . have c1:decide ((i:Int)<((256:Nat):Int))=true:=Zum (by omega);have w1:=Qau (i:=i) (by omega);obtain⟨f,hf⟩:=ldr i h;have at1:=hs.at (k:= .i64) Tryz.underlying22 Qew (by decide) (i:=(i:Int)) (by omega) (by omega);simp only[Qmi,Qe2,Qfd,Zr,Q9,Y9,nov,gd,rho,Qu,wr,Nat.reduceAdd,Nat.reduceSub,if_true,if_false,reduceIte,reduceCtorEq,Nat.reduceLT,Nat.reduceEqDiff,Nat.reduceMul,Nat.reduceLeDiff,Qgq,Int.reduceBEq,Int.reduceBNe,Int.reduceLT,Int.reduceLE,↓Qc,c1,at1,hf,ta,w1,e256];exact W.done ⟨i+1,rfl,rfl,by omega,by omega⟩
 . have c1:decide ((i:Int)<((256:Nat):Int))=false:=Zun (by omega);have hi2:i=256:=by omega
   subst hi2;simp only[wA,↓Qc,simprocAttr,c1];refine W.done ?_;simp only[wA,↓Qc,simprocAttr,ta,wH,wB,wsc,lw];refine W.ul ?_;refine W.loop (fun(i:Nat) t H=>∃F:AM.Frame,Yf [3,33,34,35] t 0=Qd4 (.bool true) wv (.int .i64 n) (.int .i64 i)/\i<=n/\H=[F]/\(F=[(1,.cells [.iS rv 256 fl,wv])]\/∃x,F=[(1,.cells [.iS rv 256 fl,wv]),(7,.cells x)])) (fun i=>n-i) ?_ 0 ⟨_,rfl,by omega,rfl,.inl rfl⟩ rfl;rintro i t H ⟨F,ht,hi,rfl,hF⟩;have hd:([F]:Heap).modify 0 (Jb fun s=>[7].contains s)=[[(1,.cells [.iS rv 256 fl,wv])]]:=by rcases hF with rfl|⟨x,rfl⟩<;>rfl
   have wvr:wv.refs (fun f s=>f==0&&[7].contains s)=false:=hv.noRefs _;refine⟨_,_,Jh (kt:=[3,33,34,35]) (ds:=[7]) rfl ?_ ?_,?_⟩
   . rw[ht];simp only[Qd4,Qi,V.refs,wvr];simp
   . rw[hd];simp only[Qz,Zb,O.refs,Qi,V.refs,wvr];simp
   rw[ht,hd];simp only[Qd4];by_cases h:i<n
   . have c1:decide ((i:Int)<n)=true:=Zum (by omega);have w1:=Qau (i:=i) (by omega);obtain⟨e1,fl2,e2⟩:=hwait i h;have at1:=hv.at (k:= .i64) Tryz.underlying23 Qjg (by decide) (i:=(i:Int)) (by omega) (by omega);have ldw:=Qyz h hv.1 e1 e2;obtain⟨m,rfl,hm⟩:=(Zbe (a i) (ha i h).1 (ha i h).2).op (by rfl) rfl;have hm' :∀s H,_:=fun s H=>hm 112 0 s H rfl;simp only[wA,↓Qc,simprocAttr,c1,at1,ldw,ta,wH,wB,w1,hm',e256];exact W.done ⟨i+1,⟨_,rfl,by omega,rfl,.inr ⟨_,rfl⟩⟩,by omega⟩
   . have c1:decide ((i:Int)<n)=false:=Zun (by omega);simp only[wA,↓Qc,simprocAttr,c1];refine W.done ?_;simp only[wA,↓Qc,simprocAttr];exact W.done (End.ret (v:= .int .i64 0) rfl rfl)
theorem Zdx:Ye Tryz.prog Qg 60 (some 183) [.int .u64 1,.int .u64 256] []=some (.ret (.tuple [.int .u64 0,.int .u64 256]),[]):=by kernel_rfl
theorem mul_fz:Fz Tryz.prog Qg 183 [.int .u64 1,.int .u64 256] fun x=>x= .tuple [.int .u64 0,.int .u64 256]:=
 ⟨_,_,_,Y6.2 ⟨60,Zdx⟩,Jc (Qa rfl (Qa rfl rfl)),rfl⟩
theorem Zeq(n m:Nat)(x:Int):List.replicate n x++List.replicate m x=List.replicate (n+m) x:=by
 induction n with
 |zero=>simp
 |succ n ih=>rw[List.replicate_succ,Zs0,ih,Nat.succ_add,List.replicate_succ]
def Be(n:Nat):List Int:=List.replicate n 256++List.replicate (256-n) 0
theorem Qan{n:Nat}(h:n<=256):(Be n).length=256:=by simp[Be];omega
theorem Q7m{n m:Nat}(h:m<=n):(Qr (Be n)).take m=Qr (List.replicate m 256):=by
 have:(List.replicate n (256:Int)++List.replicate (256-n) 0).take m=List.replicate m 256:=by rw[List.take_append_of_le_length (by simp;exact h),List.take_replicate];congr 1;omega
 rw[Qr,<-List.map_take,Be,this];rfl
theorem Qmt{n m:Nat}(h:n+m<=256):splice (Qr (Be n)) n (Qr (List.replicate m 256))=Qr (Be (n+m)):=by
 have e:splice (Be n) n (List.replicate m 256)=Be (n+m):=by unfold splice Be;rw[List.take_left' (by simp),Zuf,List.drop_append,Ztt (by simp),Zuf,Zti,List.drop_replicate,Zeq];congr 2;omega
 rw[<-e];simp[splice,Qr]
theorem Zdq{P:Program}{u e:TypeId}(hu:P.underlying u=some (.slice e)){q:Nat}(hs:sz P e=some q){g:Get}{f s o len c n:Nat}{k:IntKind}(h:n<=c)(h2:0<c)(h3:len<=c):
 Zh P g u (.mS f s o len (some c) q) none (some (.int k n)) none=some (.mS f s o n (some c) q):=by
 simp only[Zh,Yj,hu,hs,if_true,Qps,Xs,Zsu,Zs3];rw[if_pos ⟨by omega,by omega,by omega,by omega,by omega,by omega,by simp⟩];simp
theorem Q6m:Fz Tryz.prog Qg 143 [.iS [.int .i64 256] 1 true,.int .i64 256] fun x=>x= .iS (Qr (Be 256)) 256 true:=by
 refine Qw Tryz.func143 rfl ?_;obtain⟨m,rfl,hm⟩:=mul_fz.op (by rfl) rfl;have hm' :∀s H,_:=fun s H=>hm 143 0 s H rfl;have cv:∀g,convertV Tryz.prog g 3 160 (.int .i64 ((1:Nat):Int))=some (.val (.int .u64 1) none):=fun g=>by simp only[convertV,Tryz.underlying3,Tryz.underlying160];rfl
 have cv2:∀g,convertV Tryz.prog g 3 160 (.int .i64 256)=some (.val (.int .u64 256) none):=fun g=>by simp only[convertV,Tryz.underlying3,Tryz.underlying160];rfl
 have cv3:∀g,convertV Tryz.prog g 160 3 (.int .u64 256)=some (.val (.int .i64 256) none):=fun g=>by simp only[convertV,Tryz.underlying3,Tryz.underlying160];rfl
 have rm:Jl 256 8=true:=by decide
 have hZ:zerosN [V.int .i64 0] 256=Qr (Be 0):=by kernel_rfl
 have hZ' :zerosN [V.int .i64 0] (256:Int).toNat=Qr (Be 0):=hZ;have c0:decide ((0:Int)>0)=false:=rfl;have c1:decide ((256:Int)>9223372036854775807)=false:=rfl;have cp0:Qbz Tryz.prog (Qd [[(30,.cells (Qr (Be 0)))]]) 32 (.mS 0 30 0 256 (some 256) 1) (.iS [.int .i64 256] 1 true)=some (.val (.int .i64 1) (some (0,30,.cells (Qr (Be 1))))):=by have sc:Bv (Qd [[(30,.cells (Qr (Be 0)))]]) 1 (.iS [.int .i64 256] 1 true)=some (Qr (List.replicate 1 256),1):=rfl;have hg:Qd [[(30,O.cells (Qr (Be 0)))]] 0 30=some (.cells (Qr (Be 0))):=rfl;simp only[Qbz,Tryz.underlying32,sz3,sc,Qbi,hg,if_true];have sp:=Qmt (n:=0) (m:=1) (by omega);have tk:(Qr (List.replicate 1 256)).take (min 1 256*1)=Qr (List.replicate 1 256):=rfl;rw[tk,sp,if_pos ⟨by rw[X7,Qan (by omega)];decide,rfl⟩];rfl
 simp only[Qmi,Qe2,Qfd,Zr,Q9,Y9,nov,gd,rho,Qu,wr,Nat.reduceAdd,Nat.reduceSub,if_true,if_false,reduceIte,reduceCtorEq,Nat.reduceLT,Nat.reduceEqDiff,Nat.reduceMul,Nat.reduceLeDiff,Qgq,Int.reduceBEq,Int.reduceBNe,Int.reduceLT,Int.reduceLE,↓Qc,Tryz.ntmps143,ta,wH,cv,cv2,cv3,hm',c0,c1,Tryz.underlying32,by64,Int.reduceToNat,rm,and_self,hZ,hZ',Quw,cp0,Int.reduceGT];refine W.ul ?_;refine W.loopS (kt:=[7,8]) rfl (fun n:Nat=>Q4t (.mS 0 30 0 256 (some 256) 1) (.int .i64 n)) (fun n=>[[(30,.cells (Qr (Be n)))]]) (fun n=>1<=n/\n<=256) (fun n=>256-n) ?_ 1 (by omega) rfl rfl;rintro n ⟨h1,h2⟩;simp only[Q4t];have len:=fun g=>len_m (P:=Tryz.prog) Tryz.underlying32 (f:=0) (s:=30) (o:=0) (len:=256) (esz:=1) (cap:=some 256) g;by_cases h:n<256
 . have c2:decide ((n:Int)<((256:Nat):Int))=true:=Zum (by omega);have sl1:∀g,Zh Tryz.prog g 32 (.mS 0 30 0 256 (some 256) 1) (some (.int .i64 n)) none none=some (.mS 0 30 n (256-n) (some (256-n)) 1):=fun g=>by
    have:=Qxk (P:=Tryz.prog) (u:=32) Tryz.underlying32 sz3 (f:=0) (s:=30) (o:=0) (len:=256) (c:=256) (w:=n) (k:= .i64) (by omega) (by omega) g;rw[this,if_neg (by omega)];simp
   have sl2:∀g,Zh Tryz.prog g 32 (.mS 0 30 0 256 (some 256) 1) none (some (.int .i64 n)) none=some (.mS 0 30 0 n (some 256) 1):=fun g=>Zdq Tryz.underlying32 sz3 (by omega) (by omega) (by omega);have cp:Qbz Tryz.prog (Qd [[(30,.cells (Qr (Be n)))]]) 32 (.mS 0 30 n (256-n) (some (256-n)) 1) (.mS 0 30 0 n (some 256) 1)=some (.val (.int .i64 (min n (256-n):Nat)) (some (0,30,.cells (Qr (Be (n+min n (256-n))))))):=by
    have hg:Qd [[(30,O.cells (Qr (Be n)))]] 0 30=some (.cells (Qr (Be n))):=rfl;have hl:(Qr (Be n)).length=256:=by rw[X7,Qan h2]
    have sc:Bv (Qd [[(30,.cells (Qr (Be n)))]]) 1 (.mS 0 30 0 n (some 256) 1)=some (Qr (List.replicate n 256),n):=by simp only[Bv,Ql,hg,Ztu,Zsd,Q7m (Zrf n)];rw[if_pos ⟨trivial,by rw[hl];omega⟩]
    have tk:(Qr (List.replicate n 256)).take (min n (256-n)*1)=Qr (List.replicate (min n (256-n)) 256):=by
     rw[Zsd,Qr,<-List.map_take,List.take_replicate];have:min (min n (256-n)) n=min n (256-n):=by omega
     rw[this];rfl
    simp only[Qbz,Tryz.underlying32,sz3,sc,Qbi,hg,if_true,tk];rw[Qmt (by omega),if_pos ⟨by rw[hl];omega,Qre _⟩]
   have w1:(IntKind.i64).wrap ((n:Int)+((min n (256-n):Nat):Int))=((n+min n (256-n):Nat):Int):=by rw[wrap_i64]<;>omega
   simp only[Qmi,Qe2,Qfd,Zr,Q9,Y9,nov,gd,rho,Qu,wr,Nat.reduceAdd,Nat.reduceSub,if_true,if_false,reduceIte,reduceCtorEq,Nat.reduceLT,Nat.reduceEqDiff,Nat.reduceMul,Nat.reduceLeDiff,Qgq,Int.reduceBEq,Int.reduceBNe,Int.reduceLT,Int.reduceLE,↓Qc,len,c2,sl1,sl2,Quw,cp,wH];refine W.opsK (by kernel_rfl) ?_;simp only[wA,↓Qc,simprocAttr,w1];exact W.done ⟨n+min n (256-n),rfl,rfl,by omega,by omega⟩
 . have c2:decide ((n:Int)<((256:Nat):Int))=false:=Zun (by omega);have hn:n=256:=by omega
   subst hn;simp only[wA,↓Qc,simprocAttr,len,c2];refine W.done ?_;simp only[wA,↓Qc,simprocAttr];refine W.done (Qk.normal (v:= .mS 0 30 0 256 (some 256) 1) rfl ?_ rfl);have e:((Qr (Be 256)).drop 0).take (256*1)=Qr (Be 256):=by rw[Ztu,Ztz];rw[X7,Qan (Zrf _)];exact Zrf _
   have:=Qml (g:=Qd [[(30,O.cells (Qr (Be 256)))]]) (f:=0) (s:=30) (o:=0) (len:=256) (esz:=1) (cap:=some 256) (m:=10) rfl (by rw[X7,Qan (Zrf _)];exact Zrf _) (by rw[e];exact Qhg _ _ _);rw[e] at this;exact this
theorem Q3a(x:V)(n:Nat):zerosN [x] n=List.replicate n x:=by
 induction n with
 |zero=>rfl
 |succ n ih=>show[x]++zerosN [x] n=_;rw[ih,List.replicate_succ];rfl
theorem Qx5(x:V):Bz (fun _=>List.replicate 256 x) (zerosN [x] 65536) 256=zerosN [x] 65536:=by
 rw[Q3a];refine List.eq_replicate_iff.2 ⟨?_,?_⟩
 . exact Qf5 (by rw[Zuf]) (Zrf _) (fun j _=>by rw[Zuf])
 . intro b hb;unfold Bz at hb;rcases Zr5.1 hb with h|h
   . obtain⟨l,hl,hbl⟩:=List.mem_flatten.1 h;obtain⟨j,_,rfl⟩:=Zr3.1 hl;exact(List.mem_replicate.1 hbl).2
   . exact(List.mem_replicate.1 (Ztf h)).2
def newV:V:= .agg [.iS (List.replicate 256 (.iS (List.replicate 256 (.int .u8 0)) 256 true)) 256 false,.nS]
theorem Q0u:Q1y (fun _=>List.replicate 256 (.int .u8 0)) (fun _=>0) (fun _=>[]) 0=newV:=by
 have e:((List.range 256).map fun j=>V.iS ((fun _=>List.replicate 256 (V.int .u8 0)) j) 256 true)=List.replicate 256 (.iS (List.replicate 256 (.int .u8 0)) 256 true):=by rw[List.map_const',List.length_range]
 show V.agg [.iS ((List.range 256).map fun j=>V.iS ((fun _=>List.replicate 256 (V.int .u8 0)) j) 256 true) 256 false,if 0=0 then .nS else _]=_;rw[e,if_pos rfl];rfl
theorem new_fz:Fz Tryz.prog Qg 103 [] fun x=>x=newV:=by
 refine Qw Tryz.func103 rfl ?_;obtain⟨m,rfl,hm⟩:=Q6m.op (by rfl) rfl;have hm' :∀s H,_:=fun s H=>hm 103 0 s H rfl;have hr:∀i,i<256->(Be 256)[i]?=some 256:=fun i hi=>by
  have:Be 256=List.replicate 256 256:=by simp only[Be,Zt5,List.replicate_zero,Zsp]
  rw[this,List.getElem?_replicate,if_pos hi]
 have hv:Ke (.iS (Qr (Be 256)) 256 true) (Be 256):=by have:=Ke.mk (Be 256) true;rwa[Qan (Zrf _)] at this
 have hwF:WF [[(0,O.cells [.nS,.nS])]]:=rfl;obtain⟨rr,KK,hcall,rfl,rfl⟩:=Zai [[(0,.cells [.nS,.nS])]] hwF (.iS (Qr (Be 256)) 256 true) (Be 256) (Qan (Zrf _)) hr hv;have hcall' :callOp Qg (Qp Tryz.prog Qg) 103 0 (some 3) 142 [.iS (Qr (Be 256)) 256 true] [[(0,.cells [.nS,.nS])]]=some (.ret (.gS 1 33 (Kc 1 256) 256 1),[[(0,.cells [.nS,.nS])],[(20,.cells (zerosN [.int .u8 0] 65536)),(33,.grow 256)]]):=
  Qng rfl rfl rfl rfl hcall
 generalize hZ:zerosN [V.int .u8 0] 65536=Z at hcall';generalize hR:Kc 1 256=R at hcall';generalize hQ:Qr (Be 256)=Q at hm' hcall';have mt1:Qg.mt 103 1=false:=rfl;simp only[wA,↓Qc,simprocAttr,Tryz.ntmps103,ta,wH,wB,mt1,hm',hcall',Tryz.underlying32,sz3,zc3];refine W.done (Qk.ret (v:= .agg [.gS 1 33 R 256 1,.nS]) ?_ ?_ rfl)
 . exact Qr1 (f:=0) (s:=0) (o:=0) (xs:=[.gS 1 33 R 256 1,.nS]) rfl rfl rfl (by rw[rd25];rfl)
 rw[<-Q0u,<-hR];refine Qqs 0 _ (fun _=>List.replicate 256 (.int .u8 0)) (zerosN [.int .u8 0] 65536) (fun _=>0) (fun _=>[]) 0 (fun i _=>⟨by rw[Zuf],by
  rw[Zr2];intro x hx;rw[(List.mem_replicate.1 hx).2];rfl⟩) (Qcs _ _) ?_
 rw[Qx5,hZ];rfl
def ent(x:Int×V):V×V:=(.int .i64 x.1,.agg [.int .i64 x.1,x.2])
def Qbb:List (Int×V)->Int->V->List (Int×V)
 |[],k,v=>[(k,v)]
 |(k',v')::r,k,v=>if k=k' then(k,v)::r else(k',v')::Qbb r k v
theorem Q91(k:Int)(v:V):∀(L:List (Int×V)) (i0:Nat),
 (∃j x,findKey (.int .i64 k) (L.map ent) i0=some (some (i0+j,x))/\(L.map ent).set j (ent (k,v))=(Qbb L k v).map ent/\(Qbb L k v).length=L.length)\/
 (findKey (.int .i64 k) (L.map ent) i0=some none/\L.map ent++[ent (k,v)]=(Qbb L k v).map ent/\(Qbb L k v).length=L.length+1)
 |[],i0=> .inr ⟨rfl,rfl,rfl⟩
 |(k',v')::r,i0=>by
  have e:findKey (.int .i64 k) (((k',v')::r).map ent) i0=(match(if(k==k') then some true else some false:Option Bool) with
   |some true=>some (some (i0,(ent (k',v')).2))
   |some false=>findKey (.int .i64 k) (r.map ent) (i0+1)
   |none=>none):=by
   show(match(if IntKind.i64=IntKind.i64 then some (k==k') else none:Option Bool) with
   |some true=>some (some (i0,(ent (k',v')).2))
   |some false=>findKey (.int .i64 k) (r.map ent) (i0+1)
   |none=>none)=_
   rw[if_pos rfl];cases(k==k')<;>rfl
  rw[e];by_cases h:k=k'
  . subst h;refine .inl ⟨0,_,by simp;rfl,?_,?_⟩
    . simp[Qbb]
    . simp[Qbb]
  . have hb:(k==k')=false:=by simp[h]
    rw[hb];simp only[Zre,if_false,Qbb,h];rcases Q91 k v r (i0+1) with⟨j,x,h1,h2,h3⟩|⟨h1,h2,h3⟩
    . refine .inl ⟨j+1,x,by rw[h1];congr 3;omega,?_,?_⟩
      . simp only[Zrw,List.set_cons_succ,h2]
      . simp only[Zrs,h3]
    . exact .inr ⟨h1,by simp only[Zrw,Zs0,h2],by simp only[Zrs,h3]⟩
def Qj1(L:List (Int×V)):O:= .map (L.map ent) (List.range L.length) L.length
theorem upd_L{g:Get}{f s:Nat}{L:List (Int×V)}(k:Int)(v:V)(hg:g f s=some (Qj1 L)):
 updateV Tryz.prog g 237 (.map f s) (.int .i64 k) (.agg [.int .i64 k,v])=some (.val .bad (some (f,s,Qj1 (Qbb L k v)))):=by
 have hk:Ki (.int .i64) (.int .i64 k)=true:=rfl;unfold Qj1 at hg;simp only[updateV,Tryz.underlying237,Tryz.underlying3,hk,if_true,hg];rcases Q91 k v L 0 with⟨j,x,h1,h2,h3⟩|⟨h1,h2,h3⟩
 . simp only[h1,Zrm];unfold Qj1;rw[h3,<-h2];rfl
 . simp only[h1];unfold Qj1;rw[h3,<-h2,Zuc];rfl
def Xg(a:Nat->Int)(dv:Nat->V):Nat->List (Int×V)
 |0=>[]
 |i+1=>Qbb (Xg a dv i) (a i) (dv i)
theorem all_fz(i:Int):Fz Tryz.prog Qg 138 [.int .i64 i] fun x=>x= .bool true:=by refine Qw Tryz.func138 rfl ?_;simp only[wA,↓Qc,simprocAttr,Tryz.ntmps138];exact W.done (Qk.ret rfl rfl rfl)
def laF(bv wv:V)(L:List (Int×V)):AM.Frame:=[(2,.cells [bv,wv]),(8,Qj1 L)]
def laF' (bv wv:V)(y:List V)(L:List (Int×V)):AM.Frame:=[(2,.cells [bv,wv]),(7,.cells y),(8,Qj1 L)]
theorem Q5n{cs:List V}{n i:Nat}{a:Int}{x:V}(h:i<n)(hl:cs.length=n*2)(e1:cs[2*i]?=some (.int .i64 a))(e2:cs[2*i+1]?=some x):
 Qn Tryz.prog 112 cs ((i:Int).toNat*2)=some (.agg [.int .i64 a,x]):=by
 have e:(i:Int).toNat*2=2*i:=by omega
 rw[e,Q32,if_pos (by omega)];obtain⟨l1,g1⟩:=Zsm.1 e1;obtain⟨l2,g2⟩:=Zsm.1 e2;rw[Zue l1,Ztr,Zue l2,Ztr,List.take_zero,g1,g2]
theorem Qg7:∀(L:List (Int×V)) (k:Int) (v:V) (x:Int×V),x∈Qbb L k v->x=(k,v)\/x∈L
 |[],k,v,x,h=> .inl (by simpa [Qbb] using h)
 |(k',v')::r,k,v,x,h=>by
  simp only[Qbb] at h;split at h
  . rcases Zrx.1 h with rfl|h
    . exact .inl rfl
    . exact .inr (Zrz _ h)
  . rcases Zrx.1 h with rfl|h
    . exact .inr (Zry)
    . rcases Qg7 r k v x h with e|e
      . exact .inl e
      . exact .inr (Zrz _ e)
theorem Qlz(a:Nat->Int)(dv:Nat->V):∀(i:Nat) (x:Int×V),x∈Xg a dv i->∃j,j<i/\x.2=dv j
 |0,x,h=>by cases h
 |i+1,x,h=>by
  rcases Qg7 _ _ _ _ h with rfl|h
  . exact⟨i,by omega,rfl⟩
  . obtain⟨j,hj,e⟩:=Qlz a dv i x h;exact⟨j,by omega,e⟩
theorem Qst(p:Nat->Nat->Bool)(L:List (Int×V))(h:∀x∈L,x.2.refs p=false):(Qj1 L).refs p=false:=by
 show Qgm p (L.map ent)=false
 induction L with
 |nil=>rfl
 |cons x L ih=>
  have h1:=h x (by simp);have h2:=ih (fun y hy=>h y (by simp[hy]));simp only[Zrw,Qgm,ent,V.refs,Qi,h1,h2];rfl
theorem orc{p:Nat->Nat->Bool}{xs:List V}:(O.cells xs).refs p=Qi p xs:=rfl
theorem Q8o(K:Heap)(hw:WF K)(bv wv:V)(hbs:bv.scalar=true)(hbr:bv.refs (fun f _=>Nat.ble K.length f)=false)(cs:List V)(n:Nat)(hv:Q0 2 wv cs n)(hn:n<=4096)(a:Nat->Int)(dv:Nat->V)
 (hwait:∀j,j<n->cs[2*j]?=some (.int .i64 (a j))/\cs[2*j+1]?=some (dv j))(hdv:∀j,j<n->∃c fl,dv j= .iS c 256 fl)(sv:V)(hso:sv= .func (.func 138) [] []\/n=0)(hsr:∀p,sv.refs p=false):
 CW Tryz.prog Qg 178 [.agg [bv,wv],sv] K fun r K' =>r= .ret (.map K.length 8)/\K' =K++[laF bv wv (Xg a dv n)]:=by
 refine Kb Tryz.func178 rfl ?_;have lw:=hv.len Tryz.underlying23;have wsc:wv.scalar=true:=Qlf hv;simp only[wA,↓Qc,simprocAttr,Tryz.ntmps178,ta,wG,wB,hbs,wsc,lw,Tryz.underlying237];refine W.ul ?_;refine W.loop (fun(i:Nat) t H=>∃F:AM.Frame,Yf [1,5,10,11,12] t 0=Qvh sv (.map K.length 8) wv (.int .i64 n) (.int .i64 i)/\i<=n/\H=K++[F]/\(F=laF bv wv (Xg a dv i)\/∃y,F=laF' bv wv y (Xg a dv i)))
  (fun i=>n-i) ?_ 0 ⟨_,rfl,by omega,rfl,.inl rfl⟩ rfl
 rintro i t H ⟨F,ht,hi,rfl,hF⟩;have hd:(K++[F]).modify K.length (Jb fun s=>[7].contains s)=K++[laF bv wv (Xg a dv i)]:=by have:=Qdr (Jb fun s=>[7].contains s) K [F] 0;refine this.trans ?_;rcases hF with rfl|⟨y,rfl⟩<;>rfl
 have bvr:bv.refs (fun f s=>f==K.length&&[7].contains s)=false:=Qbl (fun f s h=>by simp at h;simp;omega) bv hbr;have wvr:wv.refs (fun f s=>f==K.length&&[7].contains s)=false:=hv.noRefs _;have mr:∀p:Nat->Nat->Bool,(Qj1 (Xg a dv i)).refs p=false:=fun p=>Qst p _ (fun x hx=>by
  obtain⟨j,hj,e⟩:=Qlz a dv i x hx;obtain⟨c,fl,e2⟩:=hdv j (by omega)
  rw[e,e2];rfl)
 refine⟨_,_,Jh (kt:=[1,5,10,11,12]) (ds:=[7]) rfl ?_ ?_,?_⟩
 . rw[ht];simp only[Qvh,Qi,V.refs,wvr,hsr];simp
 . rw[hd,B9,Qg4 hw (fun f s h=>by simp at h;omega)];simp only[laF,Qz,Zb,orc,Qi,bvr,wvr,mr];rfl
 rw[ht,hd];simp only[Qvh];by_cases h:i<n
 . have c1:decide ((i:Int)<n)=true:=Zum (by omega);have w1:=Qau (i:=i) (by omega);have hsv:=hso.resolve_right (by omega);subst hsv;obtain⟨e1,e2⟩:=hwait i h;have at1:=hv.at (k:= .i64) Tryz.underlying23 Qjg (by decide) (i:=(i:Int)) (by omega) (by omega);have ldw:=Q5n h hv.1 e1 e2;obtain⟨m,rfl,hm⟩:=(all_fz (i:Int)).op (by rfl) rfl;have hm' :∀s H,_:=fun s H=>hm 178 K.length s H rfl;have dsc:(dv i).scalar=true:=by obtain⟨c,fl,e⟩:=hdv i h;rw[e];rfl
   have up:=upd_L (g:=Qd (K++[[(2,.cells [bv,wv]),(7,.cells [.int .i64 (a i),dv i]),(8,Qj1 (Xg a dv i))]])) (f:=K.length) (s:=8) (L:=Xg a dv i) (a i) (dv i) (by rw[J6];rfl);have eL:Qbb (Xg a dv i) (a i) (dv i)=Xg a dv (i+1):=rfl;rw[eL] at up;simp only[laF];generalize hO:Qj1 (Xg a dv i)=O1 at up⊢;generalize hO2:Qj1 (Xg a dv (i+1))=O2 at up;simp only[wA,↓Qc,simprocAttr,c1,at1,ldw,ta,wG,wB,w1,hm',dsc,up];exact W.done ⟨i+1,⟨_,rfl,by omega,rfl,.inr ⟨_,by rw[<-hO2];rfl⟩⟩,by omega⟩
 . have c1:decide ((i:Int)<n)=false:=Zun (by omega);have hi2:i=n:=by omega
   subst hi2;simp only[wA,↓Qc,simprocAttr,c1];refine W.done ?_;simp only[wA,↓Qc,simprocAttr];refine W.done (End.ret (v:= .map K.length 8) rfl ?_);rw[K3 (by simp[V.refs])];exact⟨rfl,rfl⟩
theorem Q1g(rv:List V)(fl:Bool)(hl:rv.length=256)(hsc:rv.all V.scalar=true):
 Qp Tryz.prog Qg (some 85) [.iS rv 256 fl] []=some (.ret (.mS 0 7 0 256 none 1),[[(5,.cells []),(7,.cells rv)]]):=by
 have key:CW Tryz.prog Qg 85 [.iS rv 256 fl] [] fun r K' =>r= .ret (.mS 0 7 0 256 none 1)/\K' =[[(5,.cells []),(7,.cells rv)]]:=by
  refine Kb Tryz.func85 rfl ?_;have nn:=Qbk (P:=Tryz.prog) (t:=22) Tryz.underlying22 (x:= .tmp 3) (y:= .const (.slice none 0 0)) (cs:=rv) (n:=256) (f:=fl);have mt5:Qg.mt 85 5=true:=rfl;have mt7:Qg.mt 85 7=true:=rfl;have sc:∀g,Ql g 1 (.iS rv 256 fl)=some (rv,256):=fun g=>by simp[Ql,hl]
  have ap:Qq Tryz.prog (Qg.mt 85) 0 (Qd [[(5,O.cells [])]]) (some 7) 22 22 (.mS 0 5 0 0 (some 0) 1) (.iS rv 256 fl)=some (.val (.mS 0 7 0 256 none 1) (some (0,7,.cells rv))):=by have g5:Qd [[(5,O.cells [])]] 0 5=some (.cells []):=rfl;have n7:Qd [[(5,O.cells [])]] 0 7=none:=rfl;simp only[Qq,Tryz.underlying22,Qew,by27,zc26,Z3,sc,appendTo,g5];simp[grown,mt7,new,n7,hsc,Jl]
  simp only[wS,simprocAttr,Tryz.ntmps85,nn,mt5,Q2,ap,Tryz.underlying22,Qew,zc26,wH,wB];refine W.done (End.ret (v:= .mS 0 7 0 256 none 1) rfl ?_);have:=K3 (b:=0) (H:=[[(5,O.cells []),(7,.cells rv)]]) (v:= .mS 0 7 0 256 none 1) (by simp[V.refs]);exact⟨rfl,this⟩
 obtain⟨r,K',h,rfl,rfl⟩:=key;exact h
theorem Q42(rv:List V)(fl:Bool)(hl:rv.length=256)(hsc:rv.all V.scalar=true)(hp:Qx rv=true)(fn fr d:Nat)(H:Heap)(hn:Qd H fr d=none):
 callOp Qg (Qp Tryz.prog Qg) fn fr (some d) 85 [.iS rv 256 fl] H=some (.ret (.mS fr d 0 256 none 1),hset H fr d (.cells rv)):=by
 have hc:=Q1g rv fl hl hsc;have a1:Qg.prim 85=none:=rfl;have a2:Qg.pure fn 85=false:=rfl;have a3:Qg.lift fn 85=true:=rfl;have fz:Qt (frz (fun _ _=>none) depth) [.iS rv 256 fl]=some [.iS rv 256 fl]:=rfl;have hg:Qd [[(5,O.cells []),(7,.cells rv)]] 0 7=some (.cells rv):=rfl;simp only[callOp,a1,a2,a3,Zre,if_false,if_true,fz,hc,Qcd,hn,hg,hp,Zrb,wr]
def lfF(wv:V)(c:List V)(N:Nat)(seen:List Nat):AM.Frame:=[(2,.cells [.mS 0 9 0 256 none 1,wv]),(4,.cells [.nS,.nS]),(9,.cells c),(16,.iter (some (1,8)) N seen N)]
def lfF' (wv:V)(c:List V)(N:Nat)(seen:List Nat)(y:List V):AM.Frame:=[(2,.cells [.mS 0 9 0 256 none 1,wv]),(4,.cells [.nS,.nS]),(6,.cells y),(9,.cells c),(16,.iter (some (1,8)) N seen N)]
theorem Qju(a:Nat->Int)(dv:Nat->V):∀(i:Nat) (x:Int×V),x∈Xg a dv i->∃j,j<i/\x=(a j,dv j)
 |0,x,h=>by cases h
 |i+1,x,h=>by
  rcases Qg7 _ _ _ _ h with rfl|h
  . exact⟨i,by omega,rfl⟩
  . obtain⟨j,hj,e⟩:=Qju a dv i x h;exact⟨j,by omega,e⟩
theorem Qs5:∀(L:List (Int×V)) (k:Int) (v:V) (x:Int),x∈(Qbb L k v).map Prod.fst->x=k\/x∈L.map Prod.fst
 |[],k,v,x,h=> .inl (by simpa [Qbb] using h)
 |(k',v')::r,k,v,x,h=>by
  simp only[Qbb] at h;split at h
  . rename_i e;subst e;exact .inr h
  . simp only[Zrw,Zrx] at h⊢;rcases h with h|h
    . exact .inr (.inl h)
    . rcases Qs5 r k v x h with h|h
      . exact .inl h
      . exact .inr (.inr h)
theorem Qkm:∀(L:List (Int×V)) (k:Int) (v:V),(L.map Prod.fst).Nodup->((Qbb L k v).map Prod.fst).Nodup
 |[],k,v,_=>by simp[Qbb]
 |(k',v')::r,k,v,h=>by
  simp only[Qbb];split
  . rename_i e;subst e;exact h
  . rename_i e;simp only[Zrw,Zr4] at h⊢;refine⟨fun hm=>?_,Qkm r k v h.2⟩;rcases Qs5 r k v k' hm with h1|h1
    . exact e h1.symm
    . exact h.1 h1
theorem Qg9(a:Nat->Int)(dv:Nat->V):∀i,((Xg a dv i).map Prod.fst).Nodup
 |0=>by simp[Xg]
 |i+1=>Qkm _ _ _ (Qg9 a dv i)
theorem Qpo{L:List (Int×V)}(h:(L.map Prod.fst).Nodup)(b c:Nat)(k:Int)(v w:V)(h1:L[b]?=some (k,v))(h2:L[c]?=some (k,w)):b=c:=by
 obtain⟨l1,e1⟩:=Zsm.1 h1;obtain⟨l2,e2⟩:=Zsm.1 h2;have q1:(L.map Prod.fst)[b]?=some k:=by rw[Zt4,h1];rfl
 have q2:(L.map Prod.fst)[c]?=some k:=by rw[Zt4,h2];rfl
 exact(List.getElem?_inj (by simpa using l1) h).1 (q1.trans q2.symm)
theorem Qs4(p:Nat->Nat->Bool)(v:V)(hv:v.refs p=false):∀(l:List V) (i:Nat),Qi p l=false->Qi p (l.set i v)=false
 |[],i,_=>rfl
 |x::l,0,h=>by simp only[Qi,Zsr] at h;simp only[List.set_cons_zero,Qi,hv,h.2,Bool.or_self]
 |x::l,i+1,h=>by simp only[Qi,Zsr] at h;simp only[List.set_cons_succ,Qi,h.1,Qs4 p v hv l i h.2,Bool.or_self]
theorem Qhk(p:Nat->Nat->Bool)(L:List (Int×V))(hL:∀(b:Nat) (k:Int) (v:V),L[b]?=some (k,v)->v.refs p=false):∀(seen:List Nat) (rv:List V),Qi p rv=false->Qi p (Z7 L seen rv)=false
 |[],rv,h=>h
 |b::seen,rv,h=>by
  show Qi p (Z7 L seen (Qbf L rv b))=false;refine Qhk p L hL seen _ ?_;unfold Qbf;split
  . rename_i k v hk;exact Qs4 p v (hL b k v hk) rv _ h
  . exact h
theorem Qjr{rv:List V}{r:Nat->List V}(hl:rv.length=256)(hr:∀i,i<256->∃f,rv[i]?=some (.iS (r i) 256 f))(p:Nat->Nat->Bool):Qi p rv=false:=by
 have:∀l:List V,(∀x∈l,x.refs p=false)->Qi p l=false:=by
  intro l
  induction l with
  |nil=>intro _;rfl
  |cons x l ih=>intro h;simp only[Qi,h x (by simp),ih (fun y hy=>h y (by simp[hy])),Bool.or_self]
 refine this rv fun x hx=>?_;obtain⟨i,hi⟩:=Zsn.1 hx;have:i<256:=by rw[<-hl];exact(Zsm.1 hi).1
 obtain⟨f,hf⟩:=hr i this;rw[hi] at hf;cases hf;rfl
theorem Q4i(rv:List V)(fl:Bool)(r:Nat->List V)(hl:rv.length=256)(hr:∀i,i<256->∃f,rv[i]?=some (.iS (r i) 256 f))(hrow:∀i,i<256->Ju (r i))(wv:V)(cs:List V)(n:Nat)(hv:Q0 2 wv cs n)(hn:n<=4096)(a:Nat->Int)(dv:Nat->V)
 (hwait:∀j,j<n->cs[2*j]?=some (.int .i64 (a j))/\cs[2*j+1]?=some (dv j))(ha:∀j,j<n->0<=a j/\a j<256)(hdv:∀j,j<n->∃c fl,dv j= .iS c 256 fl/\Ju c)
 (r' :Nat->List V)(hr' :∀i,i<256->∃f,(Z7 (Xg a dv n) (List.range (Xg a dv n).length) rv)[i]?=some (.iS (r' i) 256 f))(hrow' :∀i,i<256->Ju (r' i))(sv:V)(hso:sv= .func (.func 138) [] []\/n=0)(hsr:∀p,sv.refs p=false):
 Fz Tryz.prog Qg 137 [.agg [.iS rv 256 fl,wv],sv] fun x=>x=Q1y r' (fun _=>0) (fun _=>[]) 0:=by
 refine Qw Tryz.func137 rfl ?_;have wsc:wv.scalar=true:=Qlf hv;have hsc:rv.all V.scalar=true:=by
  rw[Zr2];intro x hx;obtain⟨i,hi⟩:=Zsn.1 hx;have:i<256:=by rw[<-hl];exact(Zsm.1 hi).1
  obtain⟨f,hf⟩:=hr i this;rw[hi] at hf;cases hf;rfl
 have hpu:Qx rv=true:=by
  have:∀l:List V,(∀x∈l,x.pure=true)->Qx l=true:=by
   intro l
   induction l with
   |nil=>intro _;rfl
   |cons x l ih=>intro h;simp only[Qx,h x (by simp),ih (fun y hy=>h y (by simp[hy])),Zts]
  refine this rv fun x hx=>?_;obtain⟨i,hi⟩:=Zsn.1 hx;have:i<256:=by rw[<-hl];exact(Zsm.1 hi).1
  obtain⟨f,hf⟩:=hr i this;rw[hi] at hf;cases hf;rfl
 have cl:=Q42 rv fl hl hsc hpu 137 0 9 [[(2,.cells [.iS rv 256 fl,wv]),(4,.cells [.nS,.nS])]] rfl;have wcl:=hv.cells1;have hK1:WF [[(2,O.cells [.mS 0 9 0 256 none 1,wv]),(4,.cells [.nS,.nS]),(9,.cells rv)]]:=by have q:(fun f _=>Nat.ble 1 f) 0 9=false:=rfl;have rr:Qi (fun f _=>Nat.ble 1 f) rv=false:=Qjr hl hr _;simp only[WF,Qz,Zb,orc,Qi,V.refs,hv.noRefs,rr,Zrs,Zs9];rfl
 obtain⟨rr,KK,hlast,rfl,rfl⟩:=Q8o [[(2,.cells [.mS 0 9 0 256 none 1,wv]),(4,.cells [.nS,.nS]),(9,.cells rv)]] hK1 (.mS 0 9 0 256 none 1) wv rfl rfl cs n hv hn a dv hwait (fun j hj=>by obtain⟨c,f,e,_⟩:=hdv j hj;exact⟨c,f,e⟩) sv hso hsr;have hlast' :callOp Qg (Qp Tryz.prog Qg) 137 0 (some 15) 178 [.agg [.mS 0 9 0 256 none 1,wv],sv] [[(2,.cells [.mS 0 9 0 256 none 1,wv]),(4,.cells [.nS,.nS]),(9,.cells rv)]]=
  some (.ret (.map 1 8),[[(2,.cells [.mS 0 9 0 256 none 1,wv]),(4,.cells [.nS,.nS]),(9,.cells rv)],laF (.mS 0 9 0 256 none 1) wv (Xg a dv n)]):=K0 rfl rfl rfl hlast
 generalize hL:Xg a dv n=L at hlast' hr';have hLk:∀(b:Nat) (k:Int) (v:V),L[b]?=some (k,v)->(0<=k/\k<256)/\∃c fl,v= .iS c 256 fl/\Ju c:=by intro b k v h;rw[<-hL] at h;obtain⟨j,hj,e⟩:=Qju a dv n (k,v) (Zt1 h);cases e;exact⟨ha j hj,hdv j hj⟩
 have hFr:∀p:Nat->Nat->Bool,p 0 9=false->Zb p (laF (.mS 0 9 0 256 none 1) wv L)=true:=fun p hp=>by
  have mr:=Qst p L (fun x hx=>by
   obtain⟨b,hb⟩:=Zsn.1 hx;obtain⟨_,c,f,e,_⟩:=hLk b x.1 x.2 hb
   rw[e];rfl)
  simp only[laF,Zb,orc,Qi,V.refs,hv.noRefs,mr,hp];rfl
 generalize hFL:laF (.mS 0 9 0 256 none 1) wv L=FL at hlast' hFr;simp only[wA,↓Qc,simprocAttr,Tryz.ntmps137,ta,wH,wB,wsc,wcl,cl,hlast'];refine W.opsT (by kernel_rfl) ?_;have g8:∀F:AM.Frame,Qd [F,FL] 1 8=some (Qj1 L):=fun F=>by rw[<-hFL];rfl
 have rg:rangeV Tryz.prog (Qd [[(2,O.cells [.mS 0 9 0 256 none 1,wv]),(4,.cells [.nS,.nS]),(9,.cells rv)],FL]) 0 (some 16) 237 (.map 1 8)=some (.val (.ptr 0 16 0) (some (0,16,.iter (some (1,8)) L.length [] L.length))):=by have n16:Qd [[(2,O.cells [.mS 0 9 0 256 none 1,wv]),(4,.cells [.nS,.nS]),(9,.cells rv)],FL] 0 16=none:=rfl;simp only[rangeV,Tryz.underlying237,g8,Qj1,new,n16]
 have lr:∀b∈List.range L.length,b<L.length:=fun b hb=>Zs8.1 hb;simp only[wA,↓Qc,simprocAttr,Tryz.ntmps137,ta,wH,wB,wsc,wcl,cl,hlast',rg];refine W.ul ?_;have hLd:∀(b c:Nat) (k:Int) (v w:V),L[b]?=some (k,v)->L[c]?=some (k,w)->b=c:=by rw[<-hL];exact Qpo (Qg9 a dv n)
 refine W.range (d:=some 17) (k:=_) rfl rfl (.exit 0,((Qii (.ptr 0 2 0) (.ptr 0 4 0) (.ptr 0 16 0)).set 17 (.tuple [.bool false])).set 18 (.bool false),[[(2,O.cells [.mS 0 9 0 256 none 1,wv]),(4,.cells [.nS,.nS]),(9,.cells (Z7 L (List.range L.length) rv)),(16,.dead)],FL])
  (fun(seen:List Nat) t H=>Yf [2,4,16] t 0=Qii (.ptr 0 2 0) (.ptr 0 4 0) (.ptr 0 16 0)/\∃F,H=[F,FL]/\(F=lfF wv (Z7 L seen rv) L.length seen\/∃y,F=lfF' wv (Z7 L seen rv) L.length seen y))
  (fun seen=>(Kh seen (L.map ent) (List.range L.length)).length) ?_ [] ⟨rfl,_,rfl,.inl rfl⟩ ?_
 . rintro seen t H ⟨ht,F,rfl,hF⟩;have hd:[F,FL].modify 0 (Jb fun s=>[6].contains s)=[lfF wv (Z7 L seen rv) L.length seen,FL]:=by
    rcases hF with rfl|⟨y,rfl⟩<;>rfl
   obtain⟨cs,hcs,hall⟩:=Q6z (g:=Qd [lfF wv (Z7 L seen rv) L.length seen,FL]) (f:=0) (s:=16) rfl (g8 _) lr (Zrf _);refine⟨_,_,cs,Jh (kt:=[2,4,16]) (ds:=[6]) rfl ?_ ?_,?_,fun d hd2=>?_⟩
   . rw[ht];simp[Qii,Qi,V.refs]
   . rw[show([F,FL].modify 0 (Jb fun s=>[6].contains s))=_ from hd];have yr:Qi (fun f s=>f==0&&[6].contains s) (Z7 L seen rv)=false:=by
      refine Qhk _ L (fun b k v h=>?_) seen rv (Qjr hl hr _);obtain⟨_,c,f,e,_⟩:=hLk b k v h;rw[e];rfl
     simp only[lfF,Qz,hFr (fun f s=>f==0&&[6].contains s) rfl,Zb,orc,Qi,V.refs,hv.noRefs,yr];rfl
   . rw[ht];rw[show([F,FL].modify 0 (Jb fun s=>[6].contains s))=_ from hd];exact hcs
   . rw[ht,hd];rcases hall d hd2 with⟨hnil,rfl⟩|⟨⟨e,b⟩,he,rfl⟩
     . simp only[Qii,lfF];have eA:Z7 L seen rv=Z7 L (List.range L.length) rv:=by
        refine Q2i L hLd (fun b k v h=>(hLk b k v h).1.1) seen (fun b hb=>?_) rv (fun b k v h=>by have:=(hLk b k v h).1;omega);rw[Zru] at hnil;have:=Qsm seen (L.map ent) 0 (by rw[List.length_map];exact hnil) b (by omega) (by rw[List.length_map];omega);exact this
       rw[eA];simp only[wA,↓Qc,simprocAttr,wH,wB];exact W.done rfl
     . simp only[Qii,lfF];have he2:=he;rw[Zru] at he2;obtain⟨_,hb1,hb2⟩:=Qsk seen (L.map ent) 0 (e,b) (by rw[List.length_map];exact he2);simp only[Nat.sub_zero,Zt4] at hb1;obtain⟨⟨k,v⟩,hb3,rfl⟩:=Ztb.1 hb1;obtain⟨⟨k0,k1⟩,c,cf,rfl,hc⟩:=hLk b k v hb3;have less:=Qjn seen ((ent (k,.iS c 256 cf)),b) _ _ he;simp only[ent];have hA:(Z7 L seen rv).length=256:=by rw[B3];exact hl
       have eS:=Qz2 L seen b rv k _ hb3;have eB:Qck b (L.map ent) (List.range L.length)=some (.int .i64 k,.agg [.int .i64 k,.iS c 256 cf]):=by have:=Qpp b (L.map ent) 0 (by omega);rw[List.length_map,<-Zru,Nat.sub_zero,Zt4,hb3] at this;exact this
       have gl:(seen++[b]).getLast?=some b:=by simp
       generalize Z7 L seen rv=y at hA eS⊢;have en:Qbn (Qd [[(2,O.cells [.mS 0 9 0 256 none 1,wv]),(4,.cells [.nS,.nS]),(9,.cells y),(16,.iter (some (1,8)) L.length (seen++[b]) L.length)],FL]) (.ptr 0 16 0)=some (.tuple [.int .i64 k,.agg [.int .i64 k,.iS c 256 cf]]):=by have n16:Qd [[(2,O.cells [.mS 0 9 0 256 none 1,wv]),(4,.cells [.nS,.nS]),(9,.cells y),(16,.iter (some (1,8)) L.length (seen++[b]) L.length)],FL] 0 16=some (.iter (some (1,8)) L.length (seen++[b]) L.length):=rfl;simp only[Qbn,n16,g8,Qj1,gl,eB,if_true,Zrb]
       generalize eS2:seen++[b]=seen2 at*;have at1:=at_m (P:=Tryz.prog) (f:=0) (s:=9) (o:=0) (cap:=none) (k:= .i64) Tryz.underlying22 Qew (len:=256) k0 (i:=k) (by omega);have kl:k.toNat+1<=y.length:=by omega
       have es:y.take k.toNat++[.iS c 256 cf]++y.drop (k.toNat+1)=Z7 L seen2 rv:=by rw[eS,List.set_eq_take_append_cons_drop,if_pos (by omega),Zsz];rfl
       simp only[wA,↓Qc,simprocAttr,Tryz.ntmps137,ta,wH,wB,en,at1,if_pos kl,es];exact W.done ⟨seen2,⟨rfl,_,rfl,.inr ⟨_,rfl⟩⟩,less⟩
 . have yr:∀p:Nat->Nat->Bool,Qi p (Z7 L (List.range L.length) rv)=false:=fun p=>by
    refine Qhk _ L (fun b k v h=>?_) _ rv (Qjr hl hr _);obtain⟨_,c,f,e,_⟩:=hLk b k v h;rw[e];rfl
   have yl:(Z7 L (List.range L.length) rv).length=256:=by rw[B3];exact hl
   generalize Z7 L (List.range L.length) rv=y at hr' yr yl⊢;have hK2:WF [[(2,O.cells [.mS 0 9 0 256 none 1,.nS]),(4,.cells [.nS,.nS]),(9,.cells y),(16,.dead)],FL]:=by have q:=hFr (fun f _=>Nat.ble (0+1+1) f) rfl;simp only[WF,Qz,q,Zb,orc,Qi,V.refs,yr,Zrs,Zs9];rfl
   have hb:Qor [[(2,O.cells [.mS 0 9 0 256 none 1,.nS]),(4,.cells [.nS,.nS]),(9,.cells y),(16,.dead)],FL] (.mS 0 9 0 256 none 1) r' :=by
    refine⟨fun g=>?_,⟨fun i=> .ptr 0 9 i,fun i=>y.getD i .bad,fun i hi=>?_,fun i hi G=>?_,fun i hi=>?_⟩,hrow',rfl,rfl,rfl⟩
    . simp only[Y4,Tryz.underlying22];rfl
    . have:=at_m (P:=Tryz.prog) (f:=0) (s:=9) (o:=0) (cap:=none) (k:= .i64) Tryz.underlying22 Qew (len:=256) (i:=(i:Int)) (by omega) (by omega);rw[this];have e:0+(i:Int).toNat*1=i:=by omega
      rw[e]
    . obtain⟨f,hf⟩:=hr' i hi;show Qn Tryz.prog 26 y i=_;rw[rd26,hf];simp[List.getD,hf]
    . obtain⟨f,hf⟩:=hr' i hi;exact⟨f,by simp[List.getD,hf]⟩
   obtain⟨rr,KK,tw,rfl,rfl⟩:=Q4l _ hK2 (.mS 0 9 0 256 none 1) .nS r' hb [] 0 Q0.nil (by omega) (fun _=>0) (fun _=>[]) (fun j hj=>by omega) (fun j hj=>by omega);have tw' :=K0 (fn:=137) (fr:=0) (d:=some 30) rfl rfl rfl tw;simp only[Qii,List.set_cons_succ,List.set_cons_zero];have zl:(zerosN [V.int .u8 0] 65536).length=65536:=Qcs _ _;simp only[Kv,if_true] at tw';generalize zerosN [V.int .u8 0] 65536=Z at tw' zl;have fz:=fun HH hg=>Qqs 2 HH r' Z (fun _=>0) (fun _=>[]) 0 hrow' zl hg;simp only[Zrs,Zs9,Nat.reduceAdd,Kv,if_true] at tw' fz;generalize hF3:([(20,.cells (Bz r' Z 256)),(33,.grow 256)]:AM.Frame)=F3 at tw';generalize Qlm _ _ _ _ 0=F2 at tw';simp only[Zs0,Zti] at tw';have fz2:=fun F0=>fz [F0,FL,F2,F3] (by rw[<-hF3];rfl);clear fz hF3;generalize Kc 3 256=R0 at tw' fz2;simp only[wA,↓Qc,simprocAttr,Tryz.ntmps137,ta,wH,wB,tw'];refine W.done ?_;exact Qk.ret (v:= .agg [.gS 3 33 R0 256 1,.nS]) rfl (fz2 _) rfl
theorem Qjv{x y:Operand}(p q:Zq):Zp Tryz.prog .eql 31 x y (.agg p.cells) (.agg q.cells)=some (.bool (decide (p=q))):=by
 have hg:(Tryz.prog).eqGuardType (Tryz.prog).depth 31=false:=by kernel_rfl
 have hs:(Tryz.prog).stoodInHeld 31=false:=by kernel_rfl
 obtain⟨p1,p2,p3,p4,p5⟩:=p;obtain⟨q1,q2,q3,q4,q5⟩:=q;have e:decide ((⟨p1,p2,p3,p4,p5⟩:Zq)=⟨q1,q2,q3,q4,q5⟩)=(p1==q1&&(p2==q2&&(p3==q3&&(p4==q4&&p5==q5)))):=by rw[Bool.eq_iff_iff];simp
 rw[e];simp only[Zq.cells,Zp,Qkk,Tryz.underlying31,hg,eqV,hs,Qc6,Qar,Tryz.underlying3,Tryz.underlying27,sz3,Qtd,Qk1,Qsi];have n1:("At" = "_")=False:=by decide
 have n2:("Birth" = "_")=False:=by decide
 have n3:("Iv" = "_")=False:=by decide
 have n4:("Tag" = "_")=False:=by decide
 have n5:("Sum" = "_")=False:=by decide
 simp only[n1,n2,n3,n4,n5,if_false,Zre,List.getElem?_cons_zero,List.getElem?_cons_succ,if_true];cases p1==q1<;>cases p2==q2<;>cases p3==q3<;>cases p4==q4<;>cases p5==q5<;>rfl
theorem Km(p:Zq):Fz Tryz.prog Qg 68 [.agg p.cells] fun x=>x= .int .i64 (okE (Yp p)):=by
 refine Qw Tryz.func68 rfl ?_;have e0:∀x y,Zp Tryz.prog .eql 31 x y (.agg p.cells) (.agg J3.cells)=_:=fun x y=>Qjv p J3;obtain⟨a,b,c,d,e⟩:=p;simp only[Zq.cells,J3] at e0;simp only[Zq.cells];simp only[wA,↓Qc,simprocAttr,Tryz.ntmps68,ta,wH,wB,e0]
 repeat' ((first|refine W.guardF ?_ ?_|refine W.guardT ?_ ?_|refine W.guardXF ?_ ?_|refine W.guardXT ?_ ?_|refine W.ite ?_ ?_|refine W.opsK1 (by kernel_rfl) ?_)<;>intro h<;>simp only[wA,↓Qc,simprocAttr,h,ta,wH,wB])
 all_goals refine W.done (Qk.ret rfl rfl ?_)
 all_goals first|rfl|(simp only[okE,Yp,Q0y,J3, *,Jy,if_true,if_false];try rfl)
theorem Qyd(a:Int):Fz Tryz.prog Qg 131 [.int .i64 a] fun x=>x= .bool false:=by
 refine Qw Tryz.func131 rfl ?_;have e:(a !=a)=false:=by simp
 simp only[wA,↓Qc,simprocAttr,Tryz.ntmps131,ta,wH,wB,e];exact W.done (Qk.ret rfl rfl rfl)
theorem Bm(a b:Int):Fz Tryz.prog Qg 95 [.int .i64 a,.int .i64 b] fun x=>x= .int .i64 (Qal a b):=by
 refine Qw Tryz.func95 rfl ?_;obtain⟨m,rfl,hm⟩:=(Qyd a).op (by rfl) rfl;have hm1:∀s H,_:=fun s H=>hm 95 0 s H rfl;obtain⟨m,rfl,hm⟩:=(Qyd b).op (by rfl) rfl;have hm2:∀s H,_:=fun s H=>hm 95 0 s H rfl;simp only[wA,↓Qc,simprocAttr,Tryz.ntmps95,ta,wH,wB,hm1,hm2]
 repeat' ((first|refine W.guardF ?_ ?_|refine W.guardT ?_ ?_|refine W.guardXF ?_ ?_|refine W.guardXT ?_ ?_|refine W.ite ?_ ?_|refine W.opsK1 (by kernel_rfl) ?_)<;>intro h<;>simp only[wA,↓Qc,simprocAttr,h,ta,wH,wB])
 all_goals refine W.done (Qk.ret rfl rfl ?_)
 all_goals first|rfl|(simp only[Qal, *,Jy,if_true,if_false];try rfl)
theorem or_fz(v:V)(l:List Int)(hv:Ke v l)(hl:l.length<=1000):Fz Tryz.prog Qg 94 [v] fun x=>x= .int .i64 (Qdf l):=by
 refine Qw Tryz.func94 rfl ?_;have len:=hv.len Tryz.underlying32;simp only[wA,↓Qc,simprocAttr,Tryz.ntmps94,ta,wH,wB,len];refine W.ul ?_;refine W.loopS (kt:=[3,6,7,8]) rfl (fun i:Nat=>Q9p (.int .i64 0) v (.int .i64 l.length) (.int .i64 i)) (fun _=>[[]]) (fun i=>i<=l.length/\Qdf (l.drop i)=Qdf l) (fun i=>l.length-i) ?_ 0 ⟨by omega,rfl⟩ rfl rfl;rintro i ⟨hi,hR⟩;simp only[Q9p];by_cases h:i<l.length
 . have c1:decide ((i:Int)<l.length)=true:=Zum (by omega);have at1:=hv.at (k:= .i64) Tryz.underlying32 sz3 (by decide) (i:=(i:Int)) (by omega) (by omega);have g1:(Qr l)[(i:Int).toNat*1]?=some (.int .i64 l[i]):=by simp[h,Qr]
   have g1' :(Qr l)[(i:Int).toNat]?=some (.int .i64 l[i]):=by simp[h,Qr]
   have w1:(IntKind.i64).wrap ((i:Int)+1)=((i+1:Nat):Int):=by rw[wrap_i64]<;>omega
   have hd:Qdf (l.drop i)=if l[i] !=0 then l[i] else Qdf (l.drop (i+1)):=by rw[Zue h];rfl
   simp only[wA,↓Qc,simprocAttr,c1,at1,rd3,g1,g1',ta,wH,wB];refine W.ite ?_ ?_<;>intro h2<;>simp only[wA,↓Qc,simprocAttr,ta,wH,wB,w1]
   . refine W.done ?_;simp only[wA,↓Qc,simprocAttr];refine W.done (Qk.ret rfl rfl ?_);rw[<-hR,hd,h2];rfl
   . refine W.done ⟨i+1,rfl,rfl,⟨by omega,?_⟩,by omega⟩;rw[<-hR,hd,h2];rfl
 . have c1:decide ((i:Int)<l.length)=false:=Zun (by omega);simp only[wA,↓Qc,simprocAttr,c1];refine W.done ?_;simp only[wA,↓Qc,simprocAttr];refine W.done (Qk.ret rfl rfl ?_);rw[<-hR,Ztt (by omega)];rfl
theorem Qud(p q:Zq):Fz Tryz.prog Qg 170 [.agg p.cells,.agg q.cells] fun x=>x= .int .i64 (Qal p.at_ q.at_):=by refine Qw Tryz.func170 rfl ?_;obtain⟨a,b,c,d,e⟩:=p;obtain⟨a',b',c',d',e'⟩:=q;simp only[Zq.cells];obtain⟨m,rfl,hm⟩:=(Bm a a').op (by rfl) rfl;have hm1:∀s H,_:=fun s H=>hm 170 0 s H rfl;simp only[wA,↓Qc,simprocAttr,Tryz.ntmps170,ta,wH,wB,hm1];exact W.done (Qk.ret rfl rfl rfl)
end
end Go.Proofs.YtidniacddkalaaaGreatDoor
