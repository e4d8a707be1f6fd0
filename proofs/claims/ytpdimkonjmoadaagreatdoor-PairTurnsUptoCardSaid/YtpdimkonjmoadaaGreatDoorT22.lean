/- This file holds in one the texts D9, E1, E2, E3, E4, E5, E6, E7, E8, DM, E9; each says at its head what it proves. -/
import Derived.Test.YtpdimkonjmoadaaGreatDoorT12
import Derived.Test.YtpdimkonjmoadaaGreatDoorT13
import Derived.Test.YtpdimkonjmoadaaGreatDoorT16
import Derived.Test.YtpdimkonjmoadaaGreatDoorT18
import Derived.Test.YtpdimkonjmoadaaGreatDoorT20
import Derived.Test.YtpdimkonjmoadaaGreatDoorT21
set_option linter.unusedSimpArgs false
set_option linter.unusedVariables false
namespace Go.Proofs.YtpdimkonjmoadaaGreatDoor
section
set_option maxRecDepth 100000
open Go.AM
attribute [local irreducible] U W
theorem Q0d(rv:List V)(fl:Bool)(hl:rv.length=256)(hsc:rv.all V.scalar=true):
 Qq Tp Qf (some 53) [.iS rv 256 fl] []=some (.ret (.mS 0 7 0 256 none 1),[[(5,.cells []),(7,.cells rv)]]):=by
 have key:CW Tp Qf 53 [.iS rv 256 fl] [] fun r K' =>r= .ret (.mS 0 7 0 256 none 1)/\K' =[[(5,.cells []),(7,.cells rv)]]:=by
  refine Ye Tryz.func53 rfl ?_;have nn:=Je (P:=Tp) (t:=52) Zu1 (x:= .tmp 3) (y:= .const (.slice none 0 0)) (cs:=rv) (n:=256) (f:=fl);have mt5:Qf.mt 53 5=true:=rfl;have mt7:Qf.mt 53 7=true:=rfl;have sc:∀g,Qj g 1 (.iS rv 256 fl)=some (rv,256):=fun g=>by simp[Qj,hl]
  have ap:Qp Tp (Qf.mt 53) 0 (Qd [[(5,O.cells [])]]) (some 7) 52 52 (.mS 0 5 0 0 (some 0) 1) (.iS rv 256 fl)=some (.val (.mS 0 7 0 256 none 1) (some (0,7,.cells rv))):=by have g5:Qd [[(5,O.cells [])]] 0 5=some (.cells []):=rfl;have n7:Qd [[(5,O.cells [])]] 0 7=none:=rfl;simp only[Qp,Zu1,Qah,by27,Qrt,Jp,sc,appendTo,g5];simp[grown,mt7,new,n7,hsc,J6]
  simp only[wS,simprocAttr,Tryz.ntmps53,nn,mt5,Q3,ap,Zu1,Qah,Qrt,wH,wB];refine W.done (End.ret (v:= .mS 0 7 0 256 none 1) rfl ?_);have:=Z2 (b:=0) (H:=[[(5,O.cells []),(7,.cells rv)]]) (v:= .mS 0 7 0 256 none 1) (by simp[V.refs]);exact⟨rfl,this⟩
 obtain⟨r,K',h,rfl,rfl⟩:=key;exact h
theorem Q6m(rv:List V)(fl:Bool)(hl:rv.length=256)(hsc:rv.all V.scalar=true)(hp:Qo rv=true)(fn fr d:Nat)(H:Heap)(hn:Qd H fr d=none):
 callOp Qf (Qq Tp Qf) fn fr (some d) 53 [.iS rv 256 fl] H=some (.ret (.mS fr d 0 256 none 1),hset H fr d (.cells rv)):=by
 have hc:=Q0d rv fl hl hsc;have a1:Qf.prim 53=none:=rfl;have a2:Qf.pure fn 53=false:=rfl;have a3:Qf.lift fn 53=true:=rfl;have fz:Qx (frz (fun _ _=>none) depth) [.iS rv 256 fl]=some [.iS rv 256 fl]:=rfl;have hg:Qd [[(5,O.cells []),(7,.cells rv)]] 0 7=some (.cells rv):=rfl;simp only[callOp,a1,a2,a3,Zpo,if_false,if_true,fz,hc,Qdj,hn,hg,hp,Zpl,wr]
def lfF(wv:V)(c:List V)(N:Nat)(seen:List Nat):AM.Frame:=[(2,.cells [.mS 0 9 0 256 none 1,wv]),(4,.cells [.nS,.nS]),(9,.cells c),(16,.iter (some (1,8)) N seen N)]
def lfF' (wv:V)(c:List V)(N:Nat)(seen:List Nat)(y:List V):AM.Frame:=[(2,.cells [.mS 0 9 0 256 none 1,wv]),(4,.cells [.nS,.nS]),(6,.cells y),(9,.cells c),(16,.iter (some (1,8)) N seen N)]
theorem Qke(a:Nat->Int)(dv:Nat->V):∀(i:Nat) (x:Int×V),x∈X8 a dv i->∃j,j<i/\x=(a j,dv j)
 |0,x,h=>by cases h
 |i+1,x,h=>by
  rcases Qgt _ _ _ _ h with rfl|h
  . exact⟨i,by omega,rfl⟩
  . obtain⟨j,hj,e⟩:=Qke a dv i x h;exact⟨j,by omega,e⟩
theorem Qub:∀(L:List (Int×V)) (k:Int) (v:V) (x:Int),x∈(Qbe L k v).map Prod.fst->x=k\/x∈L.map Prod.fst
 |[],k,v,x,h=> .inl (by simpa [Qbe] using h)
 |(k',v')::r,k,v,x,h=>by
  simp only[Qbe] at h;split at h
  . rename_i e;subst e;exact .inr h
  . simp only[Zp4,Zpy] at h⊢;rcases h with h|h
    . exact .inr (.inl h)
    . rcases Qub r k v x h with h|h
      . exact .inl h
      . exact .inr (.inr h)
theorem Qjm:∀(L:List (Int×V)) (k:Int) (v:V),(L.map Prod.fst).Nodup->((Qbe L k v).map Prod.fst).Nodup
 |[],k,v,_=>by simp[Qbe]
 |(k',v')::r,k,v,h=>by
  simp only[Qbe];split
  . rename_i e;subst e;exact h
  . rename_i e;simp only[Zp4,Zr3] at h⊢;refine⟨fun hm=>?_,Qjm r k v h.2⟩;rcases Qub r k v k' hm with h1|h1
    . exact e h1.symm
    . exact h.1 h1
theorem Qgr(a:Nat->Int)(dv:Nat->V):∀i,((X8 a dv i).map Prod.fst).Nodup
 |0=>by simp[X8]
 |i+1=>Qjm _ _ _ (Qgr a dv i)
theorem Qou{L:List (Int×V)}(h:(L.map Prod.fst).Nodup)(b c:Nat)(k:Int)(v w:V)(h1:L[b]?=some (k,v))(h2:L[c]?=some (k,w)):b=c:=by
 obtain⟨l1,e1⟩:=Zq0.1 h1;obtain⟨l2,e2⟩:=Zq0.1 h2;have q1:(L.map Prod.fst)[b]?=some k:=by rw[Zsd,h1];rfl
 have q2:(L.map Prod.fst)[c]?=some k:=by rw[Zsd,h2];rfl
 exact(List.getElem?_inj (by simpa using l1) h).1 (q1.trans q2.symm)
theorem Qt5(p:Nat->Nat->Bool)(v:V)(hv:v.refs p=false):∀(l:List V) (i:Nat),Qh p l=false->Qh p (l.set i v)=false
 |[],i,_=>rfl
 |x::l,0,h=>by simp only[Qh,Zqe] at h;simp only[List.set_cons_zero,Qh,hv,h.2,Zsl]
 |x::l,i+1,h=>by simp only[Qh,Zqe] at h;simp only[List.set_cons_succ,Qh,h.1,Qt5 p v hv l i h.2,Zsl]
theorem Qhv(p:Nat->Nat->Bool)(L:List (Int×V))(hL:∀(b:Nat) (k:Int) (v:V),L[b]?=some (k,v)->v.refs p=false):∀(seen:List Nat) (rv:List V),Qh p rv=false->Qh p (Jo L seen rv)=false
 |[],rv,h=>h
 |b::seen,rv,h=>by
  show Qh p (Jo L seen (Qdo L rv b))=false;refine Qhv p L hL seen _ ?_;unfold Qdo;split
  . rename_i k v hk;exact Qt5 p v (hL b k v hk) rv _ h
  . exact h
theorem Qka{rv:List V}{r:Nat->List V}(hl:rv.length=256)(hr:∀i,i<256->∃f,rv[i]?=some (.iS (r i) 256 f))(p:Nat->Nat->Bool):Qh p rv=false:=by
 have:∀l:List V,(∀x∈l,x.refs p=false)->Qh p l=false:=by
  intro l
  induction l with
  |nil=>intro _;rfl
  |cons x l ih=>intro h;simp only[Qh,h x (by simp),ih (fun y hy=>h y (by simp[hy])),Zsl]
 refine this rv fun x hx=>?_;obtain⟨i,hi⟩:=Zrl.1 hx;have:i<256:=by rw[<-hl];exact(Zq0.1 hi).1
 obtain⟨f,hf⟩:=hr i this;rw[hi] at hf;cases hf;rfl
theorem Zdp(rv:List V)(fl:Bool)(r:Nat->List V)(hl:rv.length=256)(hr:∀i,i<256->∃f,rv[i]?=some (.iS (r i) 256 f))(hrow:∀i,i<256->J1 (r i))(wv:V)(cs:List V)(n:Nat)(hv:Qv 2 wv cs n)(hn:n<=4096)(a:Nat->Int)(dv:Nat->V)
 (hwait:∀j,j<n->cs[2*j]?=some (.int .i64 (a j))/\cs[2*j+1]?=some (dv j))(ha:∀j,j<n->0<=a j/\a j<256)(hdv:∀j,j<n->∃c fl,dv j= .iS c 256 fl/\J1 c)
 (r' :Nat->List V)(hr' :∀i,i<256->∃f,(Jo (X8 a dv n) (List.range (X8 a dv n).length) rv)[i]?=some (.iS (r' i) 256 f))(hrow' :∀i,i<256->J1 (r' i))(sv:V)(hso:sv= .func (.func 276) [] []\/n=0)(hsr:∀p,sv.refs p=false):
 Fz Tp Qf 143 [.agg [.iS rv 256 fl,wv],sv] fun x=>x=encD r' (fun _=>0) (fun _=>[]) 0:=by
 refine Zp Tryz.func143 rfl ?_;have wsc:wv.scalar=true:=Qlh hv;have hsc:rv.all V.scalar=true:=by
  rw[Zqt];intro x hx;obtain⟨i,hi⟩:=Zrl.1 hx;have:i<256:=by rw[<-hl];exact(Zq0.1 hi).1
  obtain⟨f,hf⟩:=hr i this;rw[hi] at hf;cases hf;rfl
 have hpu:Qo rv=true:=by
  have:∀l:List V,(∀x∈l,x.pure=true)->Qo l=true:=by
   intro l
   induction l with
   |nil=>intro _;rfl
   |cons x l ih=>intro h;simp only[Qo,h x (by simp),ih (fun y hy=>h y (by simp[hy])),Zrw]
  refine this rv fun x hx=>?_;obtain⟨i,hi⟩:=Zrl.1 hx;have:i<256:=by rw[<-hl];exact(Zq0.1 hi).1
  obtain⟨f,hf⟩:=hr i this;rw[hi] at hf;cases hf;rfl
 have cl:=Q6m rv fl hl hsc hpu 143 0 9 [[(2,.cells [.iS rv 256 fl,wv]),(4,.cells [.nS,.nS])]] rfl;have wcl:=hv.cells1;have hK1:WF [[(2,O.cells [.mS 0 9 0 256 none 1,wv]),(4,.cells [.nS,.nS]),(9,.cells rv)]]:=by have q:(fun f _=>Nat.ble 1 f) 0 9=false:=rfl;have rr:Qh (fun f _=>Nat.ble 1 f) rv=false:=Qka hl hr _;simp only[WF,Zb,Q0,orc,Qh,V.refs,hv.noRefs,rr,Zq2,Zq4];rfl
 obtain⟨rr,KK,hlast,rfl,rfl⟩:=Q7z [[(2,.cells [.mS 0 9 0 256 none 1,wv]),(4,.cells [.nS,.nS]),(9,.cells rv)]] hK1 (.mS 0 9 0 256 none 1) wv rfl rfl cs n hv hn a dv hwait (fun j hj=>by obtain⟨c,f,e,_⟩:=hdv j hj;exact⟨c,f,e⟩) sv hso hsr;have hlast' :callOp Qf (Qq Tp Qf) 143 0 (some 15) 239 [.agg [.mS 0 9 0 256 none 1,wv],sv] [[(2,.cells [.mS 0 9 0 256 none 1,wv]),(4,.cells [.nS,.nS]),(9,.cells rv)]]=
  some (.ret (.map 1 8),[[(2,.cells [.mS 0 9 0 256 none 1,wv]),(4,.cells [.nS,.nS]),(9,.cells rv)],laF (.mS 0 9 0 256 none 1) wv (X8 a dv n)]):=Xs rfl rfl rfl hlast
 generalize hL:X8 a dv n=L at hlast' hr';have hLk:∀(b:Nat) (k:Int) (v:V),L[b]?=some (k,v)->(0<=k/\k<256)/\∃c fl,v= .iS c 256 fl/\J1 c:=by intro b k v h;rw[<-hL] at h;obtain⟨j,hj,e⟩:=Qke a dv n (k,v) (List.mem_of_getElem? h);cases e;exact⟨ha j hj,hdv j hj⟩
 have hFr:∀p:Nat->Nat->Bool,p 0 9=false->Q0 p (laF (.mS 0 9 0 256 none 1) wv L)=true:=fun p hp=>by
  have mr:=Qt3 p L (fun x hx=>by
   obtain⟨b,hb⟩:=Zrl.1 hx;obtain⟨_,c,f,e,_⟩:=hLk b x.1 x.2 hb
   rw[e];rfl)
  simp only[laF,Q0,orc,Qh,V.refs,hv.noRefs,mr,hp];rfl
 generalize hFL:laF (.mS 0 9 0 256 none 1) wv L=FL at hlast' hFr;simp only[wX,↓Qc,simprocAttr,Tryz.ntmps143,wsc,wcl,cl,hlast'];refine W.opsT (by kernel_rfl) ?_;have g8:∀F:AM.Frame,Qd [F,FL] 1 8=some (Qkl L):=fun F=>by rw[<-hFL];rfl
 have rg:rangeV Tp (Qd [[(2,O.cells [.mS 0 9 0 256 none 1,wv]),(4,.cells [.nS,.nS]),(9,.cells rv)],FL]) 0 (some 16) 313 (.map 1 8)=some (.val (.ptr 0 16 0) (some (0,16,.iter (some (1,8)) L.length [] L.length))):=by have n16:Qd [[(2,O.cells [.mS 0 9 0 256 none 1,wv]),(4,.cells [.nS,.nS]),(9,.cells rv)],FL] 0 16=none:=rfl;simp only[rangeV,Tryz.underlying313,g8,Qkl,new,n16]
 have lr:∀b∈List.range L.length,b<L.length:=fun b hb=>Zq1.1 hb;simp only[wX,↓Qc,simprocAttr,Tryz.ntmps143,wsc,wcl,cl,hlast',rg];refine W.ul ?_;have hLd:∀(b c:Nat) (k:Int) (v w:V),L[b]?=some (k,v)->L[c]?=some (k,w)->b=c:=by rw[<-hL];exact Qou (Qgr a dv n)
 refine W.range (d:=some 17) (k:=_) rfl rfl (.exit 0,((Qii (.ptr 0 2 0) (.ptr 0 4 0) (.ptr 0 16 0)).set 17 (.tuple [.bool false])).set 18 (.bool false),[[(2,O.cells [.mS 0 9 0 256 none 1,wv]),(4,.cells [.nS,.nS]),(9,.cells (Jo L (List.range L.length) rv)),(16,.dead)],FL])
  (fun(seen:List Nat) t H=>Jj [2,4,16] t 0=Qii (.ptr 0 2 0) (.ptr 0 4 0) (.ptr 0 16 0)/\∃F,H=[F,FL]/\(F=lfF wv (Jo L seen rv) L.length seen\/∃y,F=lfF' wv (Jo L seen rv) L.length seen y))
  (fun seen=>(Ki seen (L.map ent) (List.range L.length)).length) ?_ [] ⟨rfl,_,rfl,.inl rfl⟩ ?_
 . rintro seen t H ⟨ht,F,rfl,hF⟩;have hd:[F,FL].modify 0 (Jk fun s=>[6].contains s)=[lfF wv (Jo L seen rv) L.length seen,FL]:=by
    rcases hF with rfl|⟨y,rfl⟩<;>rfl
   obtain⟨cs,hcs,hall⟩:=Q5p (g:=Qd [lfF wv (Jo L seen rv) L.length seen,FL]) (f:=0) (s:=16) rfl (g8 _) lr (Zpp _);refine⟨_,_,cs,Zq (kt:=[2,4,16]) (ds:=[6]) rfl ?_ ?_,?_,fun d hd2=>?_⟩
   . rw[ht];simp[Qii,Qh,V.refs]
   . rw[show([F,FL].modify 0 (Jk fun s=>[6].contains s))=_ from hd];have yr:Qh (fun f s=>f==0&&[6].contains s) (Jo L seen rv)=false:=by
      refine Qhv _ L (fun b k v h=>?_) seen rv (Qka hl hr _);obtain⟨_,c,f,e,_⟩:=hLk b k v h;rw[e];rfl
     simp only[lfF,Zb,hFr (fun f s=>f==0&&[6].contains s) rfl,Q0,orc,Qh,V.refs,hv.noRefs,yr];rfl
   . rw[ht];rw[show([F,FL].modify 0 (Jk fun s=>[6].contains s))=_ from hd];exact hcs
   . rw[ht,hd];rcases hall d hd2 with⟨hnil,rfl⟩|⟨⟨e,b⟩,he,rfl⟩
     . simp only[Qii,lfF];have eA:Jo L seen rv=Jo L (List.range L.length) rv:=by
        refine Q1z L hLd (fun b k v h=>(hLk b k v h).1.1) seen (fun b hb=>?_) rv (fun b k v h=>by have:=(hLk b k v h).1;omega);rw[Zrn] at hnil;have:=Qt4 seen (L.map ent) 0 (by rw[Zp6];exact hnil) b (by omega) (by rw[Zp6];omega);exact this
       rw[eA];simp only[wA,↓Qc,simprocAttr,wH,wB];exact W.done rfl
     . simp only[Qii,lfF];have he2:=he;rw[Zrn] at he2;obtain⟨_,hb1,hb2⟩:=Qth seen (L.map ent) 0 (e,b) (by rw[Zp6];exact he2);simp only[Nat.sub_zero,Zsd] at hb1;obtain⟨⟨k,v⟩,hb3,rfl⟩:=Zq8.1 hb1;obtain⟨⟨k0,k1⟩,c,cf,rfl,hc⟩:=hLk b k v hb3;have less:=Qj6 seen ((ent (k,.iS c 256 cf)),b) _ _ he;simp only[ent];have hA:(Jo L seen rv).length=256:=by rw[Qbw];exact hl
       have eS:=Qzq L seen b rv k _ hb3;have eB:Qcr b (L.map ent) (List.range L.length)=some (.int .i64 k,.agg [.int .i64 k,.iS c 256 cf]):=by have:=Qp2 b (L.map ent) 0 (by omega);rw[Zp6,<-Zrn,Nat.sub_zero,Zsd,hb3] at this;exact this
       have gl:(seen++[b]).getLast?=some b:=by simp
       generalize Jo L seen rv=y at hA eS⊢;have en:Qbl (Qd [[(2,O.cells [.mS 0 9 0 256 none 1,wv]),(4,.cells [.nS,.nS]),(9,.cells y),(16,.iter (some (1,8)) L.length (seen++[b]) L.length)],FL]) (.ptr 0 16 0)=some (.tuple [.int .i64 k,.agg [.int .i64 k,.iS c 256 cf]]):=by have n16:Qd [[(2,O.cells [.mS 0 9 0 256 none 1,wv]),(4,.cells [.nS,.nS]),(9,.cells y),(16,.iter (some (1,8)) L.length (seen++[b]) L.length)],FL] 0 16=some (.iter (some (1,8)) L.length (seen++[b]) L.length):=rfl;simp only[Qbl,n16,g8,Qkl,gl,eB,if_true,Zpl]
       generalize eS2:seen++[b]=seen2 at*;have at1:=Qyx (P:=Tp) (f:=0) (s:=9) (o:=0) (cap:=none) (k:= .i64) Zu1 Qah (len:=256) k0 (i:=k) (by omega);have kl:k.toNat+1<=y.length:=by omega
       have es:y.take k.toNat++[.iS c 256 cf]++y.drop (k.toNat+1)=Jo L seen2 rv:=by rw[eS,List.set_eq_take_append_cons_drop,if_pos (by omega),Zqm];rfl
       simp only[wX,↓Qc,simprocAttr,Tryz.ntmps143,en,at1,if_pos kl,es];exact W.done ⟨seen2,⟨rfl,_,rfl,.inr ⟨_,rfl⟩⟩,less⟩
 . have yr:∀p:Nat->Nat->Bool,Qh p (Jo L (List.range L.length) rv)=false:=fun p=>by
    refine Qhv _ L (fun b k v h=>?_) _ rv (Qka hl hr _);obtain⟨_,c,f,e,_⟩:=hLk b k v h;rw[e];rfl
   have yl:(Jo L (List.range L.length) rv).length=256:=by rw[Qbw];exact hl
   generalize Jo L (List.range L.length) rv=y at hr' yr yl⊢;have hK2:WF [[(2,O.cells [.mS 0 9 0 256 none 1,.nS]),(4,.cells [.nS,.nS]),(9,.cells y),(16,.dead)],FL]:=by have q:=hFr (fun f _=>Nat.ble (0+1+1) f) rfl;simp only[WF,Zb,q,Q0,orc,Qh,V.refs,yr,Zq2,Zq4];rfl
   have hb:Qro [[(2,O.cells [.mS 0 9 0 256 none 1,.nS]),(4,.cells [.nS,.nS]),(9,.cells y),(16,.dead)],FL] (.mS 0 9 0 256 none 1) r' :=by
    refine⟨fun g=>?_,⟨fun i=> .ptr 0 9 i,fun i=>y.getD i .bad,fun i hi=>?_,fun i hi G=>?_,fun i hi=>?_⟩,hrow',rfl,rfl,rfl⟩
    . simp only[B0,Zu1];rfl
    . have:=Qyx (P:=Tp) (f:=0) (s:=9) (o:=0) (cap:=none) (k:= .i64) Zu1 Qah (len:=256) (i:=(i:Int)) (by omega) (by omega);rw[this];have e:0+(i:Int).toNat*1=i:=by omega
      rw[e]
    . obtain⟨f,hf⟩:=hr' i hi;show Qr Tp 23 y i=_;rw[rd23,hf];simp[List.getD,hf]
    . obtain⟨f,hf⟩:=hr' i hi;exact⟨f,by simp[List.getD,hf]⟩
   obtain⟨rr,KK,tw,rfl,rfl⟩:=Q37 _ hK2 (.mS 0 9 0 256 none 1) .nS r' hb [] 0 Qv.nil (by omega) (fun _=>0) (fun _=>[]) (fun j hj=>by omega) (fun j hj=>by omega);have tw' :=Xs (fn:=143) (fr:=0) (d:=some 30) rfl rfl rfl tw;simp only[Qii,List.set_cons_succ,List.set_cons_zero];have zl:(zerosN [V.int .u8 0] 65536).length=65536:=Qcp _ _;simp only[Kw,if_true] at tw';generalize zerosN [V.int .u8 0] 65536=Z at tw' zl;have fz:=fun HH hg=>Qqj 2 HH r' Z (fun _=>0) (fun _=>[]) 0 hrow' zl hg;simp only[Zq2,Zq4,Nat.reduceAdd,Kw,if_true] at tw' fz;generalize hF3:([(20,.cells (Bt r' Z 256)),(33,.grow 256)]:AM.Frame)=F3 at tw';generalize Qky _ _ _ _ 0=F2 at tw';simp only[Zqo,Zrg] at tw';have fz2:=fun F0=>fz [F0,FL,F2,F3] (by rw[<-hF3];rfl);clear fz hF3;generalize Kb 3 256=R0 at tw' fz2;simp only[wX,↓Qc,simprocAttr,Tryz.ntmps143,tw'];refine W.done ?_;exact Zc.ret (v:= .agg [.gS 3 33 R0 256 1,.nS]) rfl (fz2 _) rfl
theorem Qmj{x y:Operand}(p q:Ka):Zj Tp .eql 60 x y (.agg p.cells) (.agg q.cells)=some (.bool (decide (p=q))):=by
 have hg:(Tp).eqGuardType (Tp).depth 60=false:=by kernel_rfl
 have hs:(Tp).stoodInHeld 60=false:=by kernel_rfl
 obtain⟨p1,p2,p3,p4,p5⟩:=p;obtain⟨q1,q2,q3,q4,q5⟩:=q;have e:decide ((⟨p1,p2,p3,p4,p5⟩:Ka)=⟨q1,q2,q3,q4,q5⟩)=(p1==q1&&(p2==q2&&(p3==q3&&(p4==q4&&p5==q5)))):=by rw[Zq7];simp
 rw[e];simp only[Ka.cells,Zj,Qj8,Tryz.underlying60,hg,eqV,hs,Qdi,Qck,Zu3,Zu9,sz3,Qw2,Qn8,Qz0];have n1:("At" = "_")=False:=by decide
 have n2:("Birth" = "_")=False:=by decide
 have n3:("Iv" = "_")=False:=by decide
 have n4:("Tag" = "_")=False:=by decide
 have n5:("Sum" = "_")=False:=by decide
 simp only[n1,n2,n3,n4,n5,if_false,Zpo,List.getElem?_cons_zero,List.getElem?_cons_succ,if_true];cases p1==q1<;>cases p2==q2<;>cases p3==q3<;>cases p4==q4<;>cases p5==q5<;>rfl
theorem Qdt(p:Ka):Fz Tp Qf 39 [.agg p.cells] fun x=>x= .int .i64 (okE (Qgx p)):=by
 refine Zp Tryz.func39 rfl ?_;have e0:∀x y,Zj Tp .eql 60 x y (.agg p.cells) (.agg Qfj.cells)=_:=fun x y=>Qmj p Qfj;obtain⟨a,b,c,d,e⟩:=p;simp only[Ka.cells,Qfj] at e0;simp only[Ka.cells];simp only[wX,↓Qc,simprocAttr,Tryz.ntmps39,e0]
 repeat' ((first|refine W.guardF ?_ ?_|refine W.guardT ?_ ?_|refine W.guardXF ?_ ?_|refine W.guardXT ?_ ?_|refine W.ite ?_ ?_|refine W.opsK1 (by kernel_rfl) ?_)<;>intro h<;>simp only[wX,↓Qc,simprocAttr,h])
 all_goals refine W.done (Zc.ret rfl rfl ?_)
 all_goals first|rfl|(simp only[okE,Qgx,Q8o,Qfj, *,Yb,if_true,if_false];try rfl)
theorem Qzh(a:Int):Fz Tp Qf 106 [.int .i64 a] fun x=>x= .bool false:=by
 refine Zp Tryz.func106 rfl ?_;have e:(a !=a)=false:=by simp
 simp only[wX,↓Qc,simprocAttr,Tryz.ntmps106,e];exact W.done (Zc.ret rfl rfl rfl)
theorem Qdk(a b:Int):Fz Tp Qf 76 [.int .i64 a,.int .i64 b] fun x=>x= .int .i64 (Qgj a b):=by
 refine Zp Tryz.func76 rfl ?_;obtain⟨m,rfl,hm⟩:=(Qzh a).op (by rfl) rfl;have hm1:∀s H,_:=fun s H=>hm 76 0 s H rfl;obtain⟨m,rfl,hm⟩:=(Qzh b).op (by rfl) rfl;have hm2:∀s H,_:=fun s H=>hm 76 0 s H rfl;simp only[wX,↓Qc,simprocAttr,Tryz.ntmps76,hm1,hm2]
 repeat' ((first|refine W.guardF ?_ ?_|refine W.guardT ?_ ?_|refine W.guardXF ?_ ?_|refine W.guardXT ?_ ?_|refine W.ite ?_ ?_|refine W.opsK1 (by kernel_rfl) ?_)<;>intro h<;>simp only[wX,↓Qc,simprocAttr,h])
 all_goals refine W.done (Zc.ret rfl rfl ?_)
 all_goals first|rfl|(simp only[Qgj, *,Yb,if_true,if_false];try rfl)
theorem or_fz(v:V)(l:List Int)(hv:Ke v l)(hl:l.length<=1000):Fz Tp Qf 77 [v] fun x=>x= .int .i64 (Qra l):=by
 refine Zp Tryz.func77 rfl ?_;have len:=hv.len Zu2;simp only[wX,↓Qc,simprocAttr,Tryz.ntmps77,len];refine W.ul ?_;refine W.loopS (kt:=[3,6,7,8]) rfl (fun i:Nat=>Q9a (.int .i64 0) v (.int .i64 l.length) (.int .i64 i)) (fun _=>[[]]) (fun i=>i<=l.length/\Qra (l.drop i)=Qra l) (fun i=>l.length-i) ?_ 0 ⟨by omega,rfl⟩ rfl rfl;rintro i ⟨hi,hR⟩;simp only[Q9a];by_cases h:i<l.length
 . have c1:decide ((i:Int)<l.length)=true:=Zsw (by omega);have at1:=hv.at (k:= .i64) Zu2 sz3 (by decide) (i:=(i:Int)) (by omega) (by omega);have g1:(Qm l)[(i:Int).toNat*1]?=some (.int .i64 l[i]):=by simp[h,Qm]
   have g1' :(Qm l)[(i:Int).toNat]?=some (.int .i64 l[i]):=by simp[h,Qm]
   have w1:(IntKind.i64).wrap ((i:Int)+1)=((i+1:Nat):Int):=by rw[wrap_i64]<;>omega
   have hd:Qra (l.drop i)=if l[i] !=0 then l[i] else Qra (l.drop (i+1)):=by rw[Zsn h];rfl
   simp only[wX,↓Qc,simprocAttr,c1,at1,rd3,g1,g1'];refine W.ite ?_ ?_<;>intro h2<;>simp only[wX,↓Qc,simprocAttr,w1]
   . refine W.done ?_;simp only[wA,↓Qc,simprocAttr];refine W.done (Zc.ret rfl rfl ?_);rw[<-hR,hd,h2];rfl
   . refine W.done ⟨i+1,rfl,rfl,⟨by omega,?_⟩,by omega⟩;rw[<-hR,hd,h2];rfl
 . have c1:decide ((i:Int)<l.length)=false:=Zsx (by omega);simp only[wA,↓Qc,simprocAttr,c1];refine W.done ?_;simp only[wA,↓Qc,simprocAttr];refine W.done (Zc.ret rfl rfl ?_);rw[<-hR,Zrz (by omega)];rfl
theorem Qu8(p q:Ka):Fz Tp Qf 104 [.agg p.cells,.agg q.cells] fun x=>x= .int .i64 (Qgj p.at_ q.at_):=by refine Zp Tryz.func104 rfl ?_;obtain⟨a,b,c,d,e⟩:=p;obtain⟨a',b',c',d',e'⟩:=q;simp only[Ka.cells];obtain⟨m,rfl,hm⟩:=(Qdk a a').op (by rfl) rfl;have hm1:∀s H,_:=fun s H=>hm 104 0 s H rfl;simp only[wX,↓Qc,simprocAttr,Tryz.ntmps104,hm1];exact W.done (Zc.ret rfl rfl rfl)
theorem _root_.Go.AM.LinesC.ld{ls:List Ji}{cs:List V}{i:Nat}(h:LinesC cs ls)(hi:i<ls.length):∃dv,Bm dv ls[i].dead/\(∀g,ldV Tp 82 g (.iptr cs (i*13))=some (.agg (Ja ls[i] dv))):=by obtain⟨dv,h1,h2⟩:=h.at_ (Zpk hi);refine⟨dv,h2,fun g=>?_⟩;show Qr Tp 82 cs (i*13)=_;have:=h.len;rw[rd82,if_pos (by omega),h1]
theorem Zdk(g:Get)(n:Nat)(h:n<=281474976710656):convertV Tp g 3 197 (.int .i64 (n:Int))=some (.val (.int .u64 (n:Int)) none):=by
 have w:(IntKind.u64).wrap (n:Int)=(n:Int):=by simp only[IntKind.wrap,IntKind.bits,IntKind.signed,Zsh,Zpo,if_false];omega
 simp only[convertV,Zu3,Zu11,w]
theorem Zds(g:Get)(n:Nat)(h:n<=281474976710656):convertV Tp g 197 3 (.int .u64 (n:Int))=some (.val (.int .i64 (n:Int)) none):=by simp only[convertV,Zu3,Zu11,wrap_i64 (n:=(n:Int)) (by omega) (by omega)]
theorem Qzf(l:Ji)(dv:V)(hd:Bm dv l.dead)(id:Int):Fz Tp Qf 75 [.agg (Ja l dv),.int .i64 id] fun x=>x= .int .i64 (Qgj l.id id):=by refine Zp Tryz.func75 rfl ?_;have sc:=Zo hd;obtain⟨m,rfl,hm⟩:=(Qdk l.id id).op (by rfl) rfl;have hm1:∀s H,_:=fun s H=>hm 75 0 s H rfl;simp only[wX,↓Qc,simprocAttr,Tryz.ntmps75,Ja,sc,hm1];exact W.done (Zc.ret rfl rfl rfl)
theorem Q46(v:V)(ls:List Ji)(hv:Qil v ls)(hl:ls.length<=1000000)(id:Int):
 Fz Tp Qf 74 [v,.int .i64 id,.func (.func 75) [] []] fun x=>x= .tuple [.int .i64 (bs (Qa4 ls id) ls.length),.bool (Qyh (Qa4 ls id) ls.length)]:=by
 refine Zp Tryz.func74 rfl ?_;obtain⟨cs,hc,hv⟩:=hv;have len:=hv.len Zu5;have sc:=Zo hv;simp only[wX,↓Qc,simprocAttr,Tryz.ntmps74,len];refine W.ul ?_;refine W.loopS (kt:=[0,1,2,8,9,10]) rfl (fun a:Nat×Nat=>Zak v (.int .i64 id) (.func (.func 75) [] []) (.int .i64 ls.length) (.int .i64 a.1) (.int .i64 a.2)) (fun _=>[[]])
  (fun a=>a.1<=a.2/\a.2<=ls.length/\Qkk (Qa4 ls id) (a.2-a.1) a.1 a.2=bs (Qa4 ls id) ls.length) (fun a=>a.2-a.1) ?_ (0,ls.length) ⟨by simp,by simp,rfl⟩ rfl rfl
 rintro⟨i,j⟩ ⟨hij,hj,hR⟩;simp only at hij hj hR;simp only[Zak];by_cases h:i<j
 . have c1:decide ((i:Int)<j)=true:=Zsw (by omega);have wa:(IntKind.i64).wrap ((i:Int)+j)=((i+j:Nat):Int):=by rw[wrap_i64]<;>omega
   have hm:(i+j)/2<ls.length:=by omega
   have at1:=hv.at (k:= .i64) Zu5 Qjg (by decide) (i:=(((i+j)/2:Nat):Int)) (by omega) (by omega);obtain⟨dv,hd,ld⟩:=hc.ld hm;have ld' :∀g,ldV Tp 82 g (.iptr cs ((((i+j)/2:Nat):Int).toNat*13))=_:=ld;have cv1:=fun g=>Zdk g (i+j) (by omega);have cv2:=fun g=>Zds g ((i+j)/2) (by omega);have sh:∀p q,Zj Tp .shr 197 p q (.int .u64 ((i+j:Nat):Int)) (.int .u64 1)=_:=fun p q=>shr_u1 (i+j);obtain⟨m,rfl,hm2⟩:=(Qzf ls[(i+j)/2] dv hd id).op (by rfl) (Qa (Qgu hd) rfl);have hm3:∀s H,_:=fun s H=>hm2 74 0 s H rfl;have eL:Qa4 ls id ((i+j)/2)=Qgj ls[(i+j)/2].id id:=by simp only[Qa4,Zpk hm]
   have w1:(IntKind.i64).wrap ((((i+j)/2:Nat):Int)+1)=(((i+j)/2+1:Nat):Int):=by rw[wrap_i64]<;>omega
   rw[<-eL] at hm3;simp only[wX,↓Qc,simprocAttr,c1,wa,at1,ld',cv1,cv2,sh,hm3];refine W.ite ?_ ?_<;>intro h2<;>simp only[wX,↓Qc,simprocAttr,w1]
   . exact W.done ⟨((i+j)/2+1,j),rfl,rfl,⟨by simp only;omega,hj,by rw[<-hR,bsGo_t h h2]⟩,by simp only;omega⟩
   . exact W.done ⟨(i,(i+j)/2),rfl,rfl,⟨by simp only;omega,by simp only;omega,by rw[<-hR,bsGo_f h h2]⟩,by simp only;omega⟩
 . have c1:decide ((i:Int)<j)=false:=Zsx (by omega);have e:i=j:=by omega
   subst e;have hi:i=bs (Qa4 ls id) ls.length:=by rw[<-hR,Nat.sub_self];rfl
   have key:Qyh (Qa4 ls id) ls.length=(decide (i<ls.length)&&decide (Qa4 ls id i=0)):=by rw[Qyh,<-hi]
   rw[key,<-hi];simp only[wA,↓Qc,simprocAttr,c1];refine W.done ?_;by_cases h2:i<ls.length
   . have c2:decide ((i:Int)<ls.length)=true:=Zsw (by omega);have at1:=hv.at (k:= .i64) Zu5 Qjg (by decide) (i:=(i:Int)) (by omega) (by omega);obtain⟨dv,hd,ld⟩:=hc.ld h2;have ld' :∀g,ldV Tp 82 g (.iptr cs ((i:Int).toNat*13))=_:=ld;obtain⟨m,rfl,hm2⟩:=(Qzf ls[i] dv hd id).op (by rfl) (Qa (Qgu hd) rfl);have hm3:∀s H,_:=fun s H=>hm2 74 0 s H rfl;have eL:Qa4 ls id i=Qgj ls[i].id id:=by simp only[Qa4,Zpk h2]
     rw[<-eL] at hm3;have e0:(Qa4 ls id i==0)=decide (Qa4 ls id i=0):=rfl;simp only[wX,↓Qc,simprocAttr,c2,at1,ld',hm3,e0];rw[Zsw h2,Zql];exact W.done (Zc.ret rfl rfl rfl)
   . have c2:decide ((i:Int)<ls.length)=false:=Zsx (by omega);simp only[wX,↓Qc,simprocAttr,c2];rw[Zsx h2,Zsh];exact W.done (Zc.ret rfl rfl rfl)
theorem Qvc(v:V)(ls:List Ji)(cs:List V)(hc:LinesC cs ls)(hv:Qv 13 v cs ls.length)(hl:ls.length<=1000000)(id:Int):
 Fz Tp Qf 42 [v,.int .i64 id] fun x=>x=(match Qep ls id with|some i=> .iptr cs (i*13)|none=> .nP):=by
 refine Zp Tryz.func42 rfl ?_;obtain⟨m,rfl,hm⟩:=(Q46 v ls ⟨cs,hc,hv⟩ hl id).op (by rfl) (Qa (hv.frz _) rfl);have hm1:∀s H,_:=fun s H=>hm 42 0 s H rfl;simp only[wX,↓Qc,simprocAttr,Tryz.ntmps42,hm1];refine W.ite ?_ ?_<;>intro h<;>simp only[wX,↓Qc,simprocAttr]
 . have h' :Qyh (Qa4 ls id) ls.length=false:=by simpa using h
   exact W.done (Zc.ret rfl rfl (by simp only[Qep,h'];rfl))
 . have h' :Qyh (Qa4 ls id) ls.length=true:=by simpa using h
   have hlt:bs (Qa4 ls id) ls.length<ls.length:=by simp only[Qyh,Zqf] at h';exact of_decide_eq_true h'.1
   have at1:=hv.at (k:= .i64) Zu5 Qjg (by decide) (i:=((bs (Qa4 ls id) ls.length:Nat):Int)) (by omega) (by omega);simp only[wX,↓Qc,simprocAttr,at1];refine W.done (Zc.ret rfl rfl ?_);simp only[Qep,h',if_true];rfl
theorem Qci(x y:Operand):Zj Tp .eql 101 x y .nP .nP=some (.bool true):=by
 have hg:(Tp).eqGuardType (Tp).depth 101=false:=by kernel_rfl
 simp only[Zj,Qj8,Tryz.underlying101,hg,eqV,Zpo,if_false];rfl
theorem Qcf(x y:Operand)(cs:List V)(o:Nat):Zj Tp .eql 101 x y (.iptr cs o) .nP=some (.bool false):=by
 have hg:(Tp).eqGuardType (Tp).depth 101=false:=by kernel_rfl
 simp only[Zj,Qj8,Tryz.underlying101,hg,eqV,Zpo,if_false];rfl
theorem kin_fz(v:V)(ls:List Ji)(hv:Qil v ls)(hl:ls.length<=1000000)(x:Ji)(dv:V)(hd:Bm dv x.dead):
 Fz Tp Qf 70 [v,.agg (Ja x dv)] fun y=>y= .bool (Qti ls x):=by
 refine Zp Tryz.func70 rfl ?_;obtain⟨cs,hc,hv⟩:=hv;have sc:=Zo hd;have sv:=Zo hv;obtain⟨m,rfl,hm⟩:=(Qvc v ls cs hc hv hl x.owner).op (by rfl) (Qa (hv.frz _) rfl);have hm1:∀s H,_:=fun s H=>hm 70 0 s H rfl;obtain⟨m,rfl,hm⟩:=(Qvc v ls cs hc hv hl x.prev).op (by rfl) (Qa (hv.frz _) rfl);have hm2:∀s H,_:=fun s H=>hm 70 0 s H rfl;obtain⟨id,kind,owner,prev,txg,guid,key,root,dead⟩:=x;obtain⟨ra,rb,rc,rd,re⟩:=root;simp only at hm1 hm2 hd sc;cases hO:Qep ls owner with
 |none=>
  simp only[hO] at hm1;have hF:∀r,Qti ls ⟨id,kind,owner,prev,txg,guid,key,r,dead⟩=false:=fun r=>by simp only[Qti,Qad,hO]
  rw[hF];generalize(match Qep ls prev with|some i=>V.iptr cs (i*13)|none=>V.nP)=pv at hm2;simp only[wX,↓Qc,simprocAttr,Tryz.ntmps70,Ja,sc,hm1,hm2,Qci,Qcf]
  repeat' ((first|refine W.guardF ?_ ?_|refine W.guardT ?_ ?_|refine W.guardXF ?_ ?_|refine W.guardXT ?_ ?_|refine W.ite ?_ ?_|refine W.opsK1 (by kernel_rfl) ?_)<;>intro h<;>simp only[wX,↓Qc,simprocAttr,h,Qci,Qcf])
  all_goals refine W.done (Zc.ret rfl rfl ?_)
  all_goals first|rfl|(simp only[*,Yb,if_true,if_false];try rfl)
 |some i=>
  have hi:=Qms hO;obtain⟨i1,i2,i3,i4⟩:=hc.cells hi;have hOf:Qad ls owner=some ls[i]:=by simp only[Qad,hO,Zpk hi]
  simp only[hO] at hm1;cases hP:Qep ls prev with
  |none=>
   have hPf:Qad ls prev=none:=by simp only[Qad,hP]
   simp only[hP] at hm2;simp only[wX,↓Qc,simprocAttr,Tryz.ntmps70,Ja,sc,hm1,hm2,Qci,Qcf,i1,i2,i3,i4]
   repeat' ((first|refine W.guardF ?_ ?_|refine W.guardT ?_ ?_|refine W.guardXF ?_ ?_|refine W.guardXT ?_ ?_|refine W.ite ?_ ?_|refine W.opsK1 (by kernel_rfl) ?_)<;>intro h<;>simp only[wX,↓Qc,simprocAttr,h,Qci,Qcf,i1,i2,i3,i4])
   all_goals refine W.done (Zc.ret rfl rfl ?_)
   all_goals first|rfl|(simp only[Qti,hOf,hPf, *,Yb,if_true,if_false];try rfl)
  |some j=>
   have hj:=Qms hP;obtain⟨j1,j2,j3,j4⟩:=hc.cells hj;have hPf:Qad ls prev=some ls[j]:=by simp only[Qad,hP,Zpk hj]
   simp only[hP] at hm2;simp only[wX,↓Qc,simprocAttr,Tryz.ntmps70,Ja,sc,hm1,hm2,Qci,Qcf,i1,i2,i3,i4,j1,j2,j3,j4]
   repeat' ((first|refine W.guardF ?_ ?_|refine W.guardT ?_ ?_|refine W.guardXF ?_ ?_|refine W.guardXT ?_ ?_|refine W.ite ?_ ?_|refine W.opsK1 (by kernel_rfl) ?_)<;>intro h<;>simp only[wX,↓Qc,simprocAttr,h,Qci,Qcf,i1,i2,i3,i4,j1,j2,j3,j4])
   all_goals refine W.done (Zc.ret rfl rfl ?_)
   all_goals first|rfl|(simp only[Qti,hOf,hPf, *,Yb,if_true,if_false];try rfl)
theorem Q3u(l:List Ka)(i:Nat)(h:i<l.length)(g:Get):ldV Tp 60 g (.iptr (Y6 l) (i*5))=some (.agg l[i].cells):=by show Qr Tp 60 (Y6 l) (i*5)=_;have:=Qlw l;rw[rd60,if_pos (by omega),Qpe l i h]
set_option maxHeartbeats 4000000 in
theorem Qu6(v:V)(l:List Ka)(hv:Bm v l):Fz Tp Qf 69 [v] fun x=>x= .int .i64 (okE (Qpo l)):=by
 refine Zp Tryz.func69 rfl ?_;have len:=hv.len Zu8;simp only[wX,↓Qc,simprocAttr,Tryz.ntmps69,len];refine W.ite ?_ ?_<;>intro h<;>simp only[wX,↓Qc,simprocAttr,len]
 . exact W.done (Zc.ret rfl rfl (by simp only[Qpo,h];rfl))
 have hl:l.length<=240:=by have:=of_decide_eq_false h;omega
 have hD:Qpo l=Qhw none l:=by simp only[Qpo,h];rfl
 rw[hD];refine W.ul ?_;refine W.loop (fun(i:Nat) t H=>∃F:AM.Frame,Jj [0,8,9,10] t 0=Q0f v v (.int .i64 l.length) (.int .i64 i)/\i<=l.length/\H=[F]/\(F=[]\/∃x,F=[(4,.cells x)])/\Qhw (before l i) (l.drop i)=Qhw none l) (fun i=>l.length-i) ?_ 0 ⟨_,rfl,by omega,rfl,.inl rfl,rfl⟩ rfl;rintro i t H ⟨F,ht,hi,rfl,hF,hR⟩;have hd:([F]:Heap).modify 0 (Jk fun s=>[4].contains s)=[[]]:=by rcases hF with rfl|⟨x,rfl⟩<;>rfl
 have vr:v.refs (fun f s=>f==0&&[4].contains s)=false:=hv.noRefs _;refine⟨_,_,Zq (kt:=[0,8,9,10]) (ds:=[4]) rfl ?_ ?_,?_⟩
 . rw[ht];simp only[Q0f,Qh,V.refs,vr];simp
 . rw[hd];simp only[Zb,Q0,O.refs,Qh,V.refs];simp
 rw[ht,hd];simp only[Q0f];by_cases h:i<l.length
 . have c1:decide ((i:Int)<l.length)=true:=Zsw (by omega);have at1:=hv.at (k:= .i64) Zu8 Qyc (by decide) (i:=(i:Int)) (by omega) (by omega);have ld1:∀g,ldV Tp 60 g (.iptr (Y6 l) ((i:Int).toNat*5))=_:=fun g=>Q3u l i h g;have w1:(IntKind.i64).wrap ((i:Int)+1)=((i+1:Nat):Int):=by rw[wrap_i64]<;>omega
   obtain⟨m,rfl,hm⟩:=(Qdt l[i]).op (by rfl) rfl;have hm1:∀s H,_:=fun s H=>hm 69 0 s H rfl;have hq:=fun x y=>Qmj (x:=x) (y:=y) l[i] Qfj;have hS:Qhw (before l i) (l.drop i)=if decide (l[i]=Qfj)||(!(Qgx l[i])||(match before l i with|some q=>decide (Qgj q.at_ l[i].at_>=0)|none=>false)) then false else Qhw (before l (i+1)) (l.drop (i+1)):=by
    rw[Zsn h];have e:before l (i+1)=some l[i]:=by simp only[before,Zpk h]
    rw[e];rfl
   rw[hR] at hS;generalize hp:l[i]=p at*;obtain⟨a,b,c,d,e⟩:=p;simp only[Ka.cells,Qfj] at ld1 hm1 hq hS;generalize hnx:Qhw (before l (i+1)) (l.drop (i+1))=nx at hS;cases i with
   |zero=>
    have c0:decide (((0:Nat):Int)>0)=false:=rfl;have hb0:before l 0=none:=rfl;simp only[hb0] at hS;simp only[Qki,Qdc,Qc8,Zm,Q9,Yy,nov,gd,rho,Qs,wr,Nat.reduceAdd,Nat.reduceSub,if_true,if_false,reduceIte,reduceCtorEq,Nat.reduceLT,Nat.reduceEqDiff,Nat.reduceMul,Nat.reduceLeDiff,Qh1,Int.reduceBEq,Int.reduceBNe,Int.reduceLT,Int.reduceLE,↓Qc,c1,at1,ld1,hm1,hq,c0,X7,ta,wH,wB]
    repeat' ((first|refine W.guardF ?_ ?_|refine W.guardT ?_ ?_|refine W.guardXF ?_ ?_|refine W.guardXT ?_ ?_|refine W.ite ?_ ?_|refine W.opsK1 (by kernel_rfl) ?_)<;>intro h<;>simp only[wX,↓Qc,simprocAttr,h,hm1,hq,c0,X7])
    all_goals first
    |(refine W.done ?_
      simp only[wA,↓Qc,simprocAttr];refine W.done (Zc.ret rfl rfl ?_);rw[hS];simp only[*,Yb,if_true,if_false,okE]
      try rfl)
    |(try simp only[wA,↓Qc,simprocAttr,w1,(rfl:(IntKind.i64).wrap 1=1)]
      refine W.done ⟨0+1,⟨_,rfl,by omega,rfl,.inr ⟨_,rfl⟩,?_⟩,by omega⟩;rw[hS,hnx];simp only[*,Yb,if_true,if_false]
      try rfl)
   |succ k=>
    have c0:decide (((k+1:Nat):Int)>0)=true:=Zsw (by omega);have wk:(IntKind.i64).wrap (((k+1:Nat):Int)-1)=((k:Nat):Int):=by rw[wrap_i64]<;>omega
    have hk:k<l.length:=by omega
    have at2:=hv.at (k:= .i64) Zu8 Qyc (by decide) (i:=(k:Int)) (by omega) (by omega);have ld2:∀g,ldV Tp 60 g (.iptr (Y6 l) ((k:Int).toNat*5))=_:=fun g=>Q3u l k hk g;obtain⟨m,rfl,hm⟩:=(Qu8 l[k] ⟨a,b,c,d,e⟩).op (by rfl) rfl;have hm2:∀s H,_:=fun s H=>hm 69 0 s H rfl;have hb:before l (k+1)=some l[k]:=by simp only[before,Zpk hk]
    simp only[hb] at hS;generalize hlk:l[k]=q at*;obtain⟨a',b',c',d',e'⟩:=q;simp only[Ka.cells,Qfj] at ld2 hm2;simp only[wX,↓Qc,simprocAttr,c1,at1,ld1,hm1,hq,c0,X7]
    repeat' ((first|refine W.guardF ?_ ?_|refine W.guardT ?_ ?_|refine W.guardXF ?_ ?_|refine W.guardXT ?_ ?_|refine W.ite ?_ ?_|refine W.opsK1 (by kernel_rfl) ?_)<;>intro h<;>simp only[wX,↓Qc,simprocAttr,h,hm1,hq,c0,X7,wk,at2,ld2,hm2])
    all_goals first
    |(refine W.done ?_
      simp only[wA,↓Qc,simprocAttr];refine W.done (Zc.ret rfl rfl ?_);rw[hS];simp only[*,Yb,if_true,if_false,okE]
      try rfl)
    |(try simp only[wA,↓Qc,simprocAttr,w1,(rfl:(IntKind.i64).wrap 1=1)]
      refine W.done ⟨_,⟨_,rfl,by omega,rfl,.inr ⟨_,rfl⟩,?_⟩,by omega⟩;rw[hS,hnx];simp only[*,Yb,if_true,if_false]
      try rfl)
 . have c1:decide ((i:Int)<l.length)=false:=Zsx (by omega);simp only[wA,↓Qc,simprocAttr,c1];refine W.done ?_;simp only[wA,↓Qc,simprocAttr];refine W.done (Zc.ret rfl rfl ?_);rw[<-hR,Zrz (by omega)];cases hb:before l i<;>rfl
set_option maxHeartbeats 8000000 in
theorem Qzs(v:V)(ls:List Ji)(hv:Qil v ls):Fz Tp Qf 40 [v] fun x=>x= .bool (Qay ls):=by
 refine Zp Tryz.func40 rfl ?_;have hv0:=hv;obtain⟨cs,hc,hv⟩:=hv;have len:=hv.len Zu5;have sv:=Zo hv;simp only[wX,↓Qc,simprocAttr,Tryz.ntmps40,len];refine W.ite ?_ ?_<;>intro h<;>simp only[wX,↓Qc,simprocAttr,len]
 . exact W.done (Zc.ret rfl rfl (by simp only[Qay,h];rfl))
 have hl:ls.length<=16:=by have:=of_decide_eq_false h;omega
 have hD:Qay ls=if Qf2 none ls then Qf1 ls ls else false:=by simp only[Qay,h];rfl
 rw[hD];refine W.ul ?_;refine W.loop (fun(i:Nat) t H=>∃F:AM.Frame,Jj [0,10,11,12] t 0=Q20 v v (.int .i64 ls.length) (.int .i64 i)/\i<=ls.length/\H=[F]/\(F=[]\/∃x,F=[(4,.cells x)])/\Qf2 (before ls i) (ls.drop i)=Qf2 none ls) (fun i=>ls.length-i) ?_ 0 ⟨_,rfl,by omega,rfl,.inl rfl,rfl⟩ rfl;rintro i t H ⟨F,ht,hi,rfl,hF,hR⟩;have hd:([F]:Heap).modify 0 (Jk fun s=>[4].contains s)=[[]]:=by rcases hF with rfl|⟨x,rfl⟩<;>rfl
 have vr:v.refs (fun f s=>f==0&&[4].contains s)=false:=hv.noRefs _;refine⟨_,_,Zq (kt:=[0,10,11,12]) (ds:=[4]) rfl ?_ ?_,?_⟩
 . rw[ht];simp only[Q20,Qh,V.refs,vr];simp
 . rw[hd];simp only[Zb,Q0,O.refs,Qh,V.refs];simp
 rw[ht,hd];simp only[Q20];by_cases h:i<ls.length
 . have c1:decide ((i:Int)<ls.length)=true:=Zsw (by omega);have at1:=hv.at (k:= .i64) Zu5 Qjg (by decide) (i:=(i:Int)) (by omega) (by omega);obtain⟨dv,hdv,ld⟩:=hc.ld h;have sc:=Zo hdv;have ld1:∀g,ldV Tp 82 g (.iptr cs ((i:Int).toNat*13))=_:=ld;have w1:(IntKind.i64).wrap ((i:Int)+1)=((i+1:Nat):Int):=by rw[wrap_i64]<;>omega
   have hS:Qf2 (before ls i) (ls.drop i)=if decide (ls[i].id<1)||(decide (ls[i].id>255)||((match before ls i with|some q=>decide (ls[i].id<=q.id)|none=>false)||((ls[i].kind !=1)&&(ls[i].kind !=2)))) then false else Qf2 (before ls (i+1)) (ls.drop (i+1)):=by
    rw[Zsn h];have e:before ls (i+1)=some ls[i]:=by simp only[before,Zpk h]
    rw[e];rfl
   rw[hR] at hS;generalize hp:ls[i]=p at*;obtain⟨id,kind,owner,prev,txg,guid,key,root,dead⟩:=p;obtain⟨ra,rb,rc,rd,re⟩:=root;simp only[Ja] at ld1;simp only at hS;generalize hnx:Qf2 (before ls (i+1)) (ls.drop (i+1))=nx at hS;cases i with
   |zero=>
    have c0:decide (((0:Nat):Int)>0)=false:=rfl;have hb0:before ls 0=none:=rfl;simp only[hb0] at hS;simp only[Qki,Qdc,Qc8,Zm,Q9,Yy,nov,gd,rho,Qs,wr,Nat.reduceAdd,Nat.reduceSub,if_true,if_false,reduceIte,reduceCtorEq,Nat.reduceLT,Nat.reduceEqDiff,Nat.reduceMul,Nat.reduceLeDiff,Qh1,Int.reduceBEq,Int.reduceBNe,Int.reduceLT,Int.reduceLE,↓Qc,c1,at1,ld1,sc,c0,ta,wH,wB]
    repeat' ((first|refine W.guardF ?_ ?_|refine W.guardT ?_ ?_|refine W.guardXF ?_ ?_|refine W.guardXT ?_ ?_|refine W.ite ?_ ?_|refine W.opsK1 (by kernel_rfl) ?_)<;>intro h<;>simp only[wX,↓Qc,simprocAttr,h,c0])
    all_goals first
    |(refine W.done ?_
      simp only[wA,↓Qc,simprocAttr];refine W.done (Zc.ret rfl rfl ?_);rw[hS];simp only[*,Yb,if_true,if_false,okE]
      try rfl)
    |(try simp only[wA,↓Qc,simprocAttr,w1,(rfl:(IntKind.i64).wrap 1=1)]
      refine W.done ⟨0+1,⟨_,rfl,by omega,rfl,.inr ⟨_,rfl⟩,?_⟩,by omega⟩;rw[hS,hnx];simp only[*,Yb,if_true,if_false]
      try rfl)
   |succ k=>
    have c0:decide (((k+1:Nat):Int)>0)=true:=Zsw (by omega);have wk:(IntKind.i64).wrap (((k+1:Nat):Int)-1)=((k:Nat):Int):=by rw[wrap_i64]<;>omega
    have hk:k<ls.length:=by omega
    have at2:=hv.at (k:= .i64) Zu5 Qjg (by decide) (i:=(k:Int)) (by omega) (by omega);have hb:before ls (k+1)=some ls[k]:=by simp only[before,Zpk hk]
    obtain⟨j1,_,_,_⟩:=hc.cells hk;have j1' :cs[(k:Int).toNat*13+0]?=_:=j1;simp only[hb] at hS;simp only[wX,↓Qc,simprocAttr,c1,at1,ld1,sc,c0]
    repeat' ((first|refine W.guardF ?_ ?_|refine W.guardT ?_ ?_|refine W.guardXF ?_ ?_|refine W.guardXT ?_ ?_|refine W.ite ?_ ?_|refine W.opsK1 (by kernel_rfl) ?_)<;>intro h<;>simp only[wX,↓Qc,simprocAttr,h,c0,wk,at2,j1'])
    all_goals first
    |(refine W.done ?_
      simp only[wA,↓Qc,simprocAttr];refine W.done (Zc.ret rfl rfl ?_);rw[hS];simp only[*,Yb,if_true,if_false,okE]
      try rfl)
    |(try simp only[wA,↓Qc,simprocAttr,w1,(rfl:(IntKind.i64).wrap 1=1)]
      refine W.done ⟨_,⟨_,rfl,by omega,rfl,.inr ⟨_,rfl⟩,?_⟩,by omega⟩;rw[hS,hnx];simp only[*,Yb,if_true,if_false]
      try rfl)
 . have c1:decide ((i:Int)<ls.length)=false:=Zsx (by omega);have hA:Qf2 none ls=true:=by
    rw[<-hR,Zrz (by omega)];cases hb:before ls i<;>rfl
   rw[hA,if_pos rfl];simp only[wA,↓Qc,simprocAttr,c1];refine W.done ?_;simp only[wX,↓Qc,simprocAttr,len];refine W.ul ?_;refine W.loop (fun(i:Nat) t H=>∃F:AM.Frame,Jj [0,51,52,53] t 0=Qvn v v (.int .i64 ls.length) (.int .i64 i)/\i<=ls.length/\H=[F]/\((F=[]\/∃x,F=[(4,.cells x)])\/∃x,F=[(6,.cells x)])/\Qf1 ls (ls.drop i)=Qf1 ls ls) (fun i=>ls.length-i) ?_ 0 ⟨_,rfl,by omega,rfl,.inl (.inl rfl),rfl⟩ rfl;rintro i t H ⟨F,ht,hi,rfl,hF,hR⟩;have hd:([F]:Heap).modify 0 (Jk fun s=>[4,6].contains s)=[[]]:=by rcases hF with(rfl|⟨x,rfl⟩)|⟨x,rfl⟩<;>rfl
   have vr:v.refs (fun f s=>f==0&&[4,6].contains s)=false:=hv.noRefs _;refine⟨_,_,Zq (kt:=[0,51,52,53]) (ds:=[4,6]) rfl ?_ ?_,?_⟩
   . rw[ht];simp only[Qvn,Qh,V.refs,vr];simp
   . rw[hd];simp only[Zb,Q0,O.refs,Qh,V.refs];simp
   rw[ht,hd];simp only[Qvn];by_cases h:i<ls.length
   . have c1:decide ((i:Int)<ls.length)=true:=Zsw (by omega);have at1:=hv.at (k:= .i64) Zu5 Qjg (by decide) (i:=(i:Int)) (by omega) (by omega);obtain⟨dv,hdv,ld⟩:=hc.ld h;have sc:=Zo hdv;have ld1:∀g,ldV Tp 82 g (.iptr cs ((i:Int).toNat*13))=_:=ld;have w1:(IntKind.i64).wrap ((i:Int)+1)=((i+1:Nat):Int):=by rw[wrap_i64]<;>omega
     have hS:Qf1 ls (ls.drop i)=if Qwv ls ls[i] then false else Qf1 ls (ls.drop (i+1)):=by rw[Zsn h];rfl
     rw[hR] at hS;obtain⟨m,rfl,hm⟩:=(Qdt ls[i].root).op (by rfl) rfl;have hm1:∀s H,_:=fun s H=>hm 40 0 s H rfl;obtain⟨m,rfl,hm⟩:=(Qu6 dv ls[i].dead hdv).op (by rfl) (Qa (hdv.frz _) rfl);have hm2:∀s H,_:=fun s H=>hm 40 0 s H rfl;obtain⟨m,rfl,hm⟩:=(kin_fz v ls hv0 (by omega) ls[i] dv hdv).op (by rfl) (Qa (hv.frz _) (Qa (Qgu hdv) rfl));have hm3:∀s H,_:=fun s H=>hm 40 0 s H rfl;generalize hp:ls[i]=p at*;obtain⟨id,kind,owner,prev,txg,guid,key,root,dead⟩:=p;obtain⟨ra,rb,rc,rd,re⟩:=root;simp only[Ja,Ka.cells] at ld1 hm1 hm2 hm3;simp only[Qwv] at hS;generalize hnx:Qf1 ls (ls.drop (i+1))=nx at hS;simp only[wX,↓Qc,simprocAttr,c1,at1,ld1,sc,hm1,hm2,hm3,X7]
     repeat' ((first|refine W.guardF ?_ ?_|refine W.guardT ?_ ?_|refine W.guardXF ?_ ?_|refine W.guardXT ?_ ?_|refine W.ite ?_ ?_|refine W.opsK1 (by kernel_rfl) ?_)<;>intro h<;>simp only[wX,↓Qc,simprocAttr,h,hm1,hm2,hm3,X7,sc])
     all_goals first
      |(refine W.done ?_
        simp only[wA,↓Qc,simprocAttr];refine W.done (Zc.ret rfl rfl ?_);rw[hS];simp only[*,Yb,if_true,if_false,okE]
        try rfl)
      |(try simp only[wA,↓Qc,simprocAttr,w1,(rfl:(IntKind.i64).wrap 1=1)]
        refine W.done ⟨_,⟨_,rfl,by omega,rfl,.inr ⟨_,rfl⟩,?_⟩,by omega⟩;rw[hS,hnx];simp only[*,Yb,if_true,if_false]
        try rfl)
   . have c1:decide ((i:Int)<ls.length)=false:=Zsx (by omega);have hB:Qf1 ls ls=true:=by
      rw[<-hR,Zrz (by omega)];rfl
     rw[hB];simp only[wA,↓Qc,simprocAttr,c1];refine W.done ?_;simp only[wX,↓Qc,simprocAttr,len];exact W.done (Zc.ret rfl rfl rfl)
set_option maxHeartbeats 8000000 in
theorem Qwq(c:Zv)(dv:V)(hd:Qm6 dv c.n):Fz Tp Qf 43 [.agg (Qw c dv)] fun x=>x= .bool (Qc0 c):=by
 refine Zp Tryz.func43 rfl ?_;obtain⟨cells,hd⟩:=hd;have sc:=Zo hd;have len:=Qv.len Zu0 hd;have hq:=fun x y=>Qmj (x:=x) (y:=y) c.laid Qfj;obtain⟨m,rfl,hm⟩:=(Qdt c.laid).op (by rfl) rfl;have hm1:∀s H,_:=fun s H=>hm 43 0 s H rfl;obtain⟨set,obj,index,kind,links,size,n,laid⟩:=c;simp only[Qc0];simp only at hq hm1;generalize Qgx laid=po at*;generalize decide (laid=Qfj)=pz at*;obtain⟨a,b,c,d,e⟩:=laid;simp only[Ka.cells,Qfj] at hm1 hq;simp only[wX,↓Qc,simprocAttr,Tryz.ntmps43,Qw,sc,len,hq,hm1,X7,Zaj]
 repeat' ((first|refine W.guardF ?_ ?_|refine W.guardT ?_ ?_|refine W.guardXF ?_ ?_|refine W.guardXT ?_ ?_|refine W.ite ?_ ?_|refine W.opsK1 (by kernel_rfl) ?_)<;>intro h<;>simp only[wX,↓Qc,simprocAttr,h,hm1,hq,sc,len,X7,Zaj])
 all_goals refine W.done (Zc.ret rfl rfl ?_)
 all_goals first|rfl|(simp only[*,Yb,if_true,if_false];try rfl)
theorem Zab(a b:Zv)(av bv:V)(ha:Qm6 av a.n)(hb:Qm6 bv b.n):Fz Tp Qf 44 [.agg (Qw a av),.agg (Qw b bv)] fun x=>x= .int .i64 (Ql5 a b):=by
 refine Zp Tryz.func44 rfl ?_;obtain⟨ca,ha⟩:=ha;obtain⟨cb,hb⟩:=hb;have sa:=Zo ha;have sb:=Zo hb;obtain⟨m,rfl,hm⟩:=(Qdk a.set b.set).op (by rfl) rfl;have hm1:∀s H,_:=fun s H=>hm 44 0 s H rfl;obtain⟨m,rfl,hm⟩:=(Qdk a.obj b.obj).op (by rfl) rfl;have hm2:∀s H,_:=fun s H=>hm 44 0 s H rfl;obtain⟨m,rfl,hm⟩:=(Qdk a.index b.index).op (by rfl) rfl;have hm3:∀s H,_:=fun s H=>hm 44 0 s H rfl;obtain⟨m,rfl,hm⟩:=(or_fz (.iS [.int .i64 (Qgj a.set b.set),.int .i64 (Qgj a.obj b.obj),.int .i64 (Qgj a.index b.index)] 3 true) [Qgj a.set b.set,Qgj a.obj b.obj,Qgj a.index b.index] (Ke.mk _ _) (by simp)).op (by rfl) rfl;have hm4:∀s H,_:=fun s H=>hm 44 0 s H rfl;have mt:Qf.mt 44 20=false:=by rfl
 simp only[wX,↓Qc,simprocAttr,Tryz.ntmps44,Qw,sa,sb,hm1,hm2,hm3,hm4,Zu2,sz3,zc3,Zq2,Zq4,Zqp,mt]
 repeat' ((first|refine W.guardF ?_ ?_|refine W.guardT ?_ ?_|refine W.guardXF ?_ ?_|refine W.guardXT ?_ ?_|refine W.ite ?_ ?_|refine W.opsK1 (by kernel_rfl) ?_)<;>intro h<;>simp only[wA,↓Qc,simprocAttr,h,mt])
 all_goals refine W.done (Zc.ret rfl rfl ?_)
 all_goals first|rfl|(simp only[Ql5, *,Yb,if_true,if_false];try rfl)
theorem byt_u8:byt Tp 5=some 1:=by kernel_rfl
theorem Qc3(mt:Nat->Bool)(dst:Option Nat)(x:V):Qlq Tp mt dst 23 9 x=none:=by cases dst<;>simp only[Qlq,Zu0,Tryz.underlying9]
theorem Zaf(x y:V)(k l:List UInt8)(hx:Qk x k)(hy:Qk y l):CW Tp Qf 72 [x,y] [] fun r _=>r= .ret (.bool (decide (k=l))):=by
 refine Ye Tryz.func72 rfl ?_;have c1:=fun g=>Qkm (P:=Tp) (g:=g) (s:=23) (d:=9) Zu0 Zu10 Tryz.underlying9 (Qv.sc (g:=g) hx);have c2:=fun g=>Qkm (P:=Tp) (g:=g) (s:=23) (d:=9) Zu0 Zu10 Tryz.underlying9 (Qv.sc (g:=g) hy);simp only[wX,↓Qc,simprocAttr,Tryz.ntmps72,c1,c2,Qc3];refine W.done (End.ret (v:= .bool (decide (k=l))) ?_ rfl);have e:(k==l)=decide (k=l):=by rw[Zq7];simp
 rw[<-e];rfl
theorem Q7m(x:V)(k:List UInt8)(hk:Qk x k)(hl:k.length<=9223372036854775807)(many:Int)(hm:many=24\/many=16):
 CW Tp Qf 71 [x,.ptr 0 3 0] [[(3,.cells [.int .i64 many])],[],[]] fun r H=>r= .ret (.bool (Bw many k))/\H=[[(3,.cells [.int .i64 many])],[],[]]:=by
 refine Ye Tryz.func71 rfl ?_;have len:=Qv.len Zu0 hk;rcases hm with rfl|rfl
 . obtain⟨r,H',e1,e2⟩:=Zaf x (.iS (Qb (List.replicate 24 0)) 24 true) k (List.replicate 24 0) hk (Qk.mk _ _);subst e2;have hc:∀d,callOp Qf (Qq Tp Qf) 71 3 d 72 [x,.mS 3 18 0 24 (some 24) 1] [[(3,.cells [.int .i64 24])],[],[],[(18,.cells (zerosN [.int .u8 0] 24))]]=some (.ret (.bool (decide (k=List.replicate 24 0))),_):=
    fun d=>Qzk rfl rfl rfl rfl (Qa (Qv.frz hk _) (Qa rfl rfl)) e1 rfl
   have un:=Zu0;have rm:J6 24 1=true:=by rfl
   simp only[wX,↓Qc,simprocAttr,Tryz.ntmps71,Zq2,Zq4,len];have t24:Int.toNat 24=24:=rfl;have t24' :(24:Int)<=24:=Int.le_refl _
   repeat' ((first|refine W.guardF ?_ ?_|refine W.guardT ?_ ?_|refine W.guardXF ?_ ?_|refine W.guardXT ?_ ?_|refine W.ite ?_ ?_|refine W.opsK1 (by kernel_rfl) ?_)<;>intro h<;>simp only[wA,↓Qc,simprocAttr,h,ta,wH,len,un,sz5,zc5,byt_u8,rm,t24,hc,Int.le_refl,true_and,and_true,Zq2,Zq4,Nat.reduceLeDiff,Int.reduceLE])
   all_goals refine W.done (End.ret (v:= .bool (Bw 24 k)) ?_ ⟨rfl,rfl⟩)
   all_goals simp only[Bw, *,Zql,Zsh,Bool.true_or,Bool.or_true,Zqr,Zsi]
   all_goals rfl
 . simp only[wX,↓Qc,simprocAttr,Tryz.ntmps71,Zq2,Zq4,len];have e:((16:Int)==24)=false:=rfl
   repeat' ((first|refine W.guardF ?_ ?_|refine W.guardT ?_ ?_|refine W.guardXF ?_ ?_|refine W.guardXT ?_ ?_|refine W.ite ?_ ?_|refine W.opsK1 (by kernel_rfl) ?_)<;>intro h<;>simp only[wA,↓Qc,simprocAttr,h,ta,wH,len,e])
   all_goals refine W.done (End.ret (v:= .bool (Bw 16 k)) ?_ ⟨rfl,rfl⟩)
   all_goals simp only[Bw, *,Zql,Zsh,Bool.true_or,Bool.or_true,Zqr,Zsi]
   all_goals rfl
theorem Q2l(v:V)(l:List (List UInt8))(cs:List V)(hc:K0 cs l)(hv:Qv 1 v cs l.length)(hl:l.length<=9223372036854775807)(hk:∀k∈l,k.length<=9223372036854775807)(many:Int)(hm:many=24\/many=16):
 CW Tp Qf 105 [v,.func (.func 71) [] [.ptr 0 3 0]] [[(3,.cells [.int .i64 many])],[]] fun r H=>r= .ret (.int .i64 (Yi (Bw many) 0 l))/\H=[[(3,.cells [.int .i64 many])],[]]:=by
 refine Ye Tryz.func105 rfl ?_;have len:=hv.len Zu1;simp only[wX,↓Qc,simprocAttr,Tryz.ntmps105,Zq2,Zq4,len];refine W.ul ?_;refine W.loopS (kt:=[0,1,7,8]) rfl (fun i:Nat=>Q3o v (.func (.func 71) [] [.ptr 0 3 0]) (.int .i64 l.length) (.int .i64 i)) (fun _=>[[(3,.cells [.int .i64 many])],[],[]]) (fun i=>i<=l.length/\Yi (Bw many) i (l.drop i)=Yi (Bw many) 0 l) (fun i=>l.length-i) ?_ 0 ⟨by omega,rfl⟩ rfl rfl;rintro i ⟨hi,hR⟩;simp only[Q3o];by_cases h:i<l.length
 . have c1:decide ((i:Int)<l.length)=true:=Zsw (by omega);have at1:=hv.at (k:= .i64) Zu1 Qah (by decide) (i:=(i:Int)) (by omega) (by omega);obtain⟨x,g0,hx⟩:=hc.at_ h;have g1:cs[(i:Int).toNat*1]?=some x:=by simpa using g0
   have g1' :cs[(i:Int).toNat]?=some x:=by simpa using g0
   have w1:(IntKind.i64).wrap ((i:Int)+1)=((i+1:Nat):Int):=by rw[wrap_i64]<;>omega
   obtain⟨r,H',e1,e2,rfl⟩:=Q7m x l[i] hx (hk _ (Zrt h)) many hm;subst e2;have hcall:∀d,callOp Qf (Qq Tp Qf) 105 2 d 71 [x,.ptr 0 3 0] [[(3,.cells [.int .i64 many])],[],[]]=_:=fun d=>Xs rfl rfl rfl e1;have hS:Yi (Bw many) i (l.drop i)=if Bw many l[i] then(i:Int) else Yi (Bw many) (i+1) (l.drop (i+1)):=by rw[Zsn h];rfl
   rw[hR] at hS;simp only[wX,↓Qc,simprocAttr,c1,at1,rd23,g1,g1',hcall,Zqo,Zrg];refine W.ite ?_ ?_<;>intro h2<;>simp only[wA,↓Qc,simprocAttr,ta,wH,w1]
   . refine W.done ?_;simp only[wA,↓Qc,simprocAttr];refine W.done (End.ret (v:= .int .i64 (Yi (Bw many) 0 l)) ?_ ⟨rfl,rfl⟩);rw[hS,h2];rfl
   . refine W.done ⟨i+1,rfl,rfl,⟨by omega,?_⟩,by omega⟩;rw[hS,h2];rfl
 . have c1:decide ((i:Int)<l.length)=false:=Zsx (by omega);simp only[wA,↓Qc,simprocAttr,c1];refine W.done ?_;simp only[wA,↓Qc,simprocAttr];refine W.done (End.ret (v:= .int .i64 (Yi (Bw many) 0 l)) ?_ ⟨rfl,rfl⟩);rw[<-hR,Zrz (by omega)];rfl
theorem Qzu(v:V)(l:List (List UInt8))(cs:List V)(hc:K0 cs l)(hv:Qv 1 v cs l.length)(hl:l.length<=9223372036854775807)(hk:∀k∈l,k.length<=9223372036854775807)(many:Int)(hm:many=24\/many=16):
 CW Tp Qf 73 [v,.func (.func 71) [] [.ptr 0 3 0]] [[(3,.cells [.int .i64 many])]] fun r H=>r= .ret (.bool (l.any (Bw many)))/\H=[[(3,.cells [.int .i64 many])]]:=by
 refine Ye Tryz.func73 rfl ?_;obtain⟨r,H',e1,e2,rfl⟩:=Q2l v l cs hc hv hl hk many hm;subst e2;have hcall:∀d,callOp Qf (Qq Tp Qf) 73 1 d 105 [v,.func (.func 71) [] [.ptr 0 3 0]] [[(3,.cells [.int .i64 many])],[]]=_:=fun d=>Xs rfl rfl rfl e1;simp only[wX,↓Qc,simprocAttr,Tryz.ntmps73,Zq2,Zq4,Zqo,Zrg,hcall,Qna];exact W.done (End.ret (v:= .bool (l.any (Bw many))) rfl ⟨rfl,rfl⟩)
theorem Qq4(v:V)(l:List (List UInt8))(hv:Kf v l)(hl:l.length<=9223372036854775807)(hk:∀k∈l,k.length<=9223372036854775807)(many:Int)(hm:many=24\/many=16):
 Fz Tp Qf 41 [v,.int .i64 many] fun x=>x= .bool (Qdv l many):=by
 refine Zp Tryz.func41 rfl ?_;obtain⟨cs,hc,hv⟩:=hv;have len:=hv.len Zu1;obtain⟨r,H',e1,e2,rfl⟩:=Qzu v l cs hc hv hl hk many hm;subst e2;have hcall:∀d,callOp Qf (Qq Tp Qf) 41 0 d 73 [v,.func (.func 71) [] [.ptr 0 3 0]] [[(3,.cells [.int .i64 many])]]=_:=fun d=>Xs rfl rfl rfl e1;simp only[wX,↓Qc,simprocAttr,Tryz.ntmps41,len,hcall]
 repeat' ((first|refine W.guardF ?_ ?_|refine W.guardT ?_ ?_|refine W.guardXF ?_ ?_|refine W.guardXT ?_ ?_|refine W.ite ?_ ?_|refine W.opsK1 (by kernel_rfl) ?_)<;>intro h<;>simp only[wA,↓Qc,simprocAttr,h,ta,wH,len,hcall])
 all_goals refine W.done (Zc.ret rfl rfl ?_)
 all_goals first|rfl|(simp only[Qdv, *,Yb,if_true,if_false];try rfl)
open Go.AM Go.AM.BM
def Kx(m:Int)(l:List UInt8):Int:=l.foldl (fun m b=>if(b.toNat:Int)>m then b.toNat else m) m
theorem Za4(v:V)(b:UInt8)(l:List UInt8)(hv:Qk v (b::l))(hl:l.length+1<=281474976710656):
 CW Tp Qf 102 [v] [] fun x _=>x= .ret (.int .u8 (Kx b.toNat l)):=by
 refine Ye Tryz.func102 rfl ?_;have len:=hv.len Zu0;have at0:=hv.at (k:= .i64) Zu0 sz5 (by decide) (i:=0) (by omega) (by simp);have get0:(Qb (b::l))[(0:Int).toNat*1]?=some (.int .u8 b.toNat):=rfl;have get0' :(Qb (b::l))[(0:Int).toNat]?=some (.int .u8 b.toNat):=rfl;have lt1:decide (((b::l).length:Int)<1)=false:=Zsx (by simp;omega);have hL2:(b::l).length=l.length+1:=rfl;generalize hL:b::l=L at*;simp only[Qki,Qdc,Qc8,Zm,Q9,Yy,nov,gd,rho,Qs,wr,Nat.reduceAdd,Nat.reduceSub,if_true,if_false,reduceIte,reduceCtorEq,Nat.reduceLT,Nat.reduceEqDiff,Nat.reduceMul,Nat.reduceLeDiff,Qh1,Int.reduceBEq,Int.reduceBNe,Int.reduceLT,Int.reduceLE,↓Qc,Tryz.ntmps102,ta,wH,wB,len,at0,lt1,rd5,get0,get0'];refine W.ul ?_;refine W.loopS (kt:=[0,3,4]) rfl (fun a:Int×Nat=>Qwh v (.int .u8 a.1) (.int .i64 a.2)) (fun _=>[[]]) (fun a=>a.2<=L.length/\Kx a.1 (L.drop a.2)=Kx b.toNat l) (fun a=>L.length-a.2) ?_ (b.toNat,1) ⟨by subst hL;simp,by subst hL;simp⟩ rfl rfl;rintro⟨m,i⟩ ⟨hi,hm⟩;simp only at hi hm;by_cases h:i<L.length
 . have c1:decide ((i:Int)<L.length)=true:=by simp;omega
   have at1:=hv.at (k:= .i64) Zu0 sz5 (by decide) (i:=(i:Int)) (by omega) (by omega);have get1:(Qb L)[(i:Int).toNat*1]?=some (.int .u8 L[i].toNat):=by simp[Qek,h]
   have get1' :(Qb L)[(i:Int).toNat]?=some (.int .u8 L[i].toNat):=by simp[Qek,h]
   have w1:(IntKind.i64).wrap ((i:Int)+1)=((i+1:Nat):Int):=by rw[wrap_i64]<;>omega
   simp only[Qwh];simp only[wX,↓Qc,simprocAttr,len,c1,at1,rd5,get1,get1',w1];refine W.done ⟨(_,i+1),rfl,rfl,⟨by simp only;omega,?_⟩,by simp only;omega⟩;rw[<-hm,Zsn h];rfl
 . have c1:decide ((i:Int)<L.length)=false:=by simp;omega
   simp only[Qwh];simp only[wA,↓Qc,simprocAttr,len,c1];refine W.done ?_;have:m=Kx b.toNat l:=by rw[<-hm,Zrz (by omega)];rfl
   subst this;simp only[wA,↓Qc,simprocAttr];exact W.done (End.ret (v:= .int .u8 (Kx b.toNat l)) rfl rfl)
theorem byteB{v:V}(h:Qok v=true):∃b:UInt8,v= .int .u8 b.toNat:=by
 cases v with
 |int k a=>
  cases k<;>try (cases a<;>cases h)
  cases a with
  |ofNat n=>
   have:n<256:=by simp only[Qok,Nat.blt] at h;have:=Zru h;omega
   refine⟨UInt8.ofNat n,?_⟩;have e:(UInt8.ofNat n).toNat=n:=by simp;omega
   rw[e];rfl
  |negSucc n=>cases h
 |_=>cases h
theorem Qim{x:V}{c:List V}(h:Qmn x=some c):∃l:List UInt8,c=Qb l/\Qk x l/\l.length<=1048576:=by
 have key:∀c:List V,c.all Qok=true->∃l:List UInt8,c=Qb l:=by
  intro c
  induction c with
  |nil=>intro _;exact⟨[],rfl⟩
  |cons v c ih=>
   intro h;simp only[Zr7,Zqf] at h;obtain⟨b,rfl⟩:=byteB h.1;obtain⟨l,rfl⟩:=ih h.2;exact⟨b::l,rfl⟩
 cases x with
 |nS=>cases h;exact⟨[],rfl,Qv.nil,by simp⟩
 |iS xs n f=>
  simp only[Qmn] at h;split at h
  case isFalse=>cases h
  rename_i hc;cases h;simp only[Zqf] at hc;obtain⟨h1,h2,h3⟩:=hc;obtain⟨l,rfl⟩:=key _ h3;have e1:=Zsg h1;have e2:=Zru h2;have e3:(Qb l).length=l.length:=by simp[Qb]
  rw[e3] at e1;subst e1;exact⟨l,rfl,Qv.mk (by rw[e3];omega),e2⟩
 |_=>cases h
theorem Qlx:∀(l:List UInt8) (m:Nat),Int.ofNat (maxV (Qb l) m)=Kx m l
 |[],m=>rfl
 |b::l,m=>by
  have e:maxV (Qb (b::l)) m=Bool.rec (motive:=fun _=>Nat) (maxV (Qb l) m) (maxV (Qb l) b.toNat) (Nat.ble (Nat.succ m) b.toNat):=rfl;have e2:Kx m (b::l)=Kx (if(b.toNat:Int)>m then b.toNat else m) l:=rfl;rw[e,e2];cases hb:Nat.ble (Nat.succ m) b.toNat with
  |true=>
   have:=Zru hb;rw[if_pos (by omega)];exact Qlx l _
  |false=>
   have:¬Nat.succ m<=b.toNat:=fun h=>by rw[Zsf h] at hb;cases hb
   rw[if_neg (by omega)];exact Qlx l _
theorem Zef(ys:List V)(v:V)(h:kMax ys=some v):FzN Tp Qf 102 ys v:=by
 unfold kMax at h;split at h
 case h_2=>cases h
 rename_i x;split at h
 case h_2=>cases h
 rename_i v0 c hc;cases h;obtain⟨l,e,hb,hl⟩:=Qim hc;cases l with
 |nil=>cases e
 |cons b l=>
  cases e;obtain⟨r,H,e1,rfl⟩:=Za4 x b l hb (by simp only[Zq2] at hl;omega);have e3:=Qlx l b.toNat
  show FzN _ _ _ _ (.int .u8 (Int.ofNat (maxV (Qb l) b.toNat)));rw[e3];exact⟨_,_,e1,rfl⟩
end
section
set_option maxRecDepth 100000
open Go.AM
attribute [local irreducible] U W
theorem Zec(C:AM.Call)(fn fr:Nat)(d:Option Nat)(H:Heap)(v:V)(l:List UInt8)(hv:Qk v l)(c:UInt8):
 callOp Qf C fn fr d 193 [v,.int .u8 c.toNat] H=some (.ret (.int .i64 (l.count c)),H):=by
 have e:Qf.prim 193=some K9:=rfl;simp only[callOp,e,K9,hv.bytesV,Zpl,wr,Lib.countByte];simp
theorem max_fz(v:V)(b:UInt8)(l:List UInt8)(hv:Qk v (b::l))(hl:l.length+1<=281474976710656):
 Fz Tp Qf 102 [v] fun r=>r= .int .u8 (Kx b.toNat l):=by
 obtain⟨r,H,e1,rfl⟩:=Za4 v b l hv hl;exact⟨_,_,_,e1,rfl,rfl⟩
theorem Q76(v w:V)(l:List UInt8)(c:UInt8)(hv:Qk v l)(hw:Qk w [c]):
 Fz Tp Qf 103 [v,w] fun r=>r= .int .i64 (l.count c):=by
 refine Zp Tryz.func103 rfl ?_;have len:=hw.len Zu0;have at0:=hw.at (k:= .i64) Zu0 sz5 (by decide) (i:=0) (by omega) (by simp);have get0:(Qb [c])[(0:Int).toNat*1]?=some (.int .u8 c.toNat):=rfl;have c1:((([c]:List UInt8).length:Int)==0)=false:=rfl;have c2:((([c]:List UInt8).length:Int)==1)=true:=rfl;have ct:∀d,callOp Qf (Qq Tp Qf) 103 0 d 193 [v,.int .u8 c.toNat] [[]]=some (.ret (.int .i64 (l.count c)),[[]]):=fun d=>Zec _ _ _ _ _ v l hv c;generalize hn:([c]:List UInt8).length=n at*;simp only[Qki,Qdc,Qc8,Zm,Q9,Yy,nov,gd,rho,Qs,wr,Nat.reduceAdd,Nat.reduceSub,if_true,if_false,reduceIte,reduceCtorEq,Nat.reduceLT,Nat.reduceEqDiff,Nat.reduceMul,Nat.reduceLeDiff,Qh1,Int.reduceBEq,Int.reduceBNe,Int.reduceLT,Int.reduceLE,↓Qc,ta,wH,Tryz.ntmps103,len,at0,rd5,get0,c1,c2,ct];exact W.done (Zc.ret rfl rfl rfl)
theorem Qre(n:Int):∀(l:List UInt8) (m:Int),Kx m l<=n↔m<=n/\∀b∈l,(b.toNat:Int)<=n
 |[],m=>by simp[Kx]
 |b::l,m=>by
  have e:Kx m (b::l)=Kx (if(b.toNat:Int)>m then b.toNat else m) l:=rfl;rw[e,Qre n l];split
  . constructor
    . rintro⟨h1,h2⟩;exact⟨by omega,by simpa using ⟨h1,h2⟩⟩
    . rintro⟨h1,h2⟩;simp at h2;exact⟨h2.1,h2.2⟩
  . constructor
    . rintro⟨h1,h2⟩;exact⟨h1,by simp;exact⟨by omega,h2⟩⟩
    . rintro⟨h1,h2⟩;simp at h2;exact⟨h1,h2.2⟩
theorem Qsl(v:V)(l:List UInt8)(hv:Qk v l):
 Fz Tp Qf 68 [v] fun r=>r= .int .i64 (if Qbg l then 0 else 8):=by
 refine Zp Tryz.func68 rfl ?_;have len:=hv.len Zu0;simp only[wA,↓Qc,simprocAttr,ta,wH,Tryz.ntmps68,len];by_cases h1:l.length=256
 . have c1:((l.length:Int) !=256)=false:=by simp[h1]
   match l,h1 with
   |b::l',h1=>
   obtain⟨m,rfl,hm⟩:=(max_fz v b l' hv (by simp at h1;omega)).op (by rfl) (Qa (hv.frz _) rfl);have hm' :∀d,_:=fun d=>hm 68 0 d [[]] rfl;generalize hL:b::l' =L at*;obtain⟨w,hw,hw'⟩:=hv.cut Zu0 sz5 none (some 12) (by simp) (by simp) (by simp;omega);simp only[Zq9,Zpl] at hw;have bs:Qk (.iS [.int .u8 1] 1 true) [1]:=Qk.mk [1] true;obtain⟨m,rfl,hc⟩:=(Q76 _ _ _ 1 hw' bs).op (by rfl) (Qa (hw'.frz _) (Qa (bs.frz _) rfl));have hc' :∀d,_:=fun d=>hc 68 0 d [[]] rfl;have e1:L.take 12=(List.drop ((none:Option Int).getD 0).toNat L).take (((some 12:Option Int).getD L.length).toNat-((none:Option Int).getD 0).toNat):=rfl;rw[<-e1] at hc';have e2:Kx b.toNat l' <=2↔(L.all fun b=>b<=2)=true:=by rw[Qre,<-hL];simp only[Zr7,Zqf,decide_eq_true_eq,Zqt,le2]
   have z1:zeroCells Tp 5=some [.int .u8 0]:=zc5;simp only[wA,↓Qc,simprocAttr,ta,wH,c1,hm'];refine W.guard (fun g1=>?_) (fun g1=>?_)
   . have g2:Kx b.toNat l' <=2:=by have:=of_decide_eq_false g1;omega
     have g3:Qbg L=((L.take 12).count 1==12):=by simp only[Qbg,h1,beq_self_eq_true,Zql,e2.1 g2]
     have mt0:∀s,s<2000000->Qf.mt 68 s=false:=fun s h=>Qej h rfl;simp only[wX,↓Qc,simprocAttr,g1,hw,Zu0,sz5,z1,mt0,hc'];refine W.ite (fun g4=>?_) (fun g4=>?_)
     . simp only[wA,↓Qc,simprocAttr,ta,wH,];refine W.done (Zc.ret rfl rfl ?_);have g5:=bne_iff_ne.1 g4;have g6:(List.count 1 (List.take 12 L)==12)=false:=beq_false_of_ne fun e=>g5 (by rw[e];rfl);show V.int .i64 8=_;rw[g3,g6];rfl
     . simp only[wA,↓Qc,simprocAttr,ta,wH,];refine W.done (Zc.ret rfl rfl ?_);have g5:((List.count 1 (List.take 12 L):Nat):Int)=12:=by simpa using g4
       have g6:(List.count 1 (List.take 12 L)==12)=true:=beq_iff_eq.2 (by omega);show V.int .i64 0=_;rw[g3,g6];rfl
   . have g2:¬Kx b.toNat l' <=2:=by have:=of_decide_eq_true g1;omega
     have g3:Qbg L=false:=by have:(L.all fun b=>b<=2)=false:=Zse.2 fun h=>g2 (e2.2 h);simp only[Qbg,this,Bool.and_false,Zsh]
     simp only[wA,↓Qc,simprocAttr,ta,wH,g1];refine W.done (Zc.ret rfl rfl ?_);rw[g3];rfl
 . have c1:((l.length:Int) !=256)=true:=by simp;omega
   have e:Qbg l=false:=by simp[Qbg,h1]
   simp only[wA,↓Qc,simprocAttr,ta,wH,c1];exact W.done (Zc.ret rfl rfl (by rw[e];rfl))
end
end Go.Proofs.YtpdimkonjmoadaaGreatDoor
