/- This file holds in one the texts EP, Bx14, Bx51; each says at its head what it proves. -/
import Derived.Test.YtpdimkonjmoadaaGreatDoorT6
import Derived.Test.YtpdimkonjmoadaaGreatDoorT7
import Derived.Test.YtpdimkonjmoadaaGreatDoorT12
set_option linter.unusedSimpArgs false
set_option linter.unusedVariables false
section
namespace Go.AM
structure Ka where
 at_:Int
 birth:Int
 iv:Int
 tag:Int
 sum:Int
 deriving DecidableEq
def Ka.cells(p:Ka):List V:=[.int .i64 p.at_,.int .u32 p.birth,.int .u32 p.iv,.int .u32 p.tag,.int .u32 p.sum]
def Qfj:Ka:=⟨0,0,0,0,0⟩
def Q8o(p:Ka):Bool:=decide (p.at_<12)||(decide (p.at_>=256)||(decide (p.birth<1)||decide (p.birth>16777215)))
def Qgx(p:Ka):Bool:=decide (p=Qfj)||!Q8o p
def okE(b:Bool):Int:=if b then 0 else 8
def Qgj(a b:Int):Int:=if decide (a<b) then-1 else if decide (a>b) then 1 else 0
def Qra:List Int->Int
 |[]=>0
 |x::r=>if x !=0 then x else Qra r
def Qm6(v:V)(n:Nat):Prop:=∃cells,Qv 1 v cells n
structure Ji where
 id:Int
 kind:Int
 owner:Int
 prev:Int
 txg:Int
 guid:Int
 key:Int
 root:Ka
 dead:List Ka
 deriving DecidableEq
def Y6(l:List Ka):List V:=l.flatMap Ka.cells
def Ja(l:Ji)(dv:V):List V:= .int .i64 l.id:: .int .u8 l.kind:: .int .i64 l.owner:: .int .i64 l.prev:: .int .u32 l.txg:: .int .u32 l.guid:: .int .i64 l.key:: .int .i64 l.root.at_:: .int .u32 l.root.birth:: .int .u32 l.root.iv:: .int .u32 l.root.tag:: .int .u32 l.root.sum::[dv]
def Bm(v:V)(l:List Ka):Prop:=Qv 5 v (Y6 l) l.length
def LinesC:List V->List Ji->Prop
 |cs,[]=>cs=[]
 |cs,l::ls=>∃dv d,cs=Ja l dv++d/\Bm dv l.dead/\LinesC d ls
def Qil(v:V)(ls:List Ji):Prop:=∃cs,LinesC cs ls/\Qv 13 v cs ls.length
def Qkk(c:Nat->Int):Nat->Nat->Nat->Nat
 |0,i,_=>i
 |n+1,i,j=>if i<j then(if decide (c ((i+j)/2)<0) then Qkk c n ((i+j)/2+1) j else Qkk c n i ((i+j)/2)) else i
def bs(c:Nat->Int)(n:Nat):Nat:=Qkk c n 0 n
def Qyh(c:Nat->Int)(n:Nat):Bool:=decide (bs c n<n)&&decide (c (bs c n)=0)
def Qa4(ls:List Ji)(id:Int)(i:Nat):Int:=match ls[i]? with
 |some l=>Qgj l.id id
 |none=>0
def Qep(ls:List Ji)(id:Int):Option Nat:=if Qyh (Qa4 ls id) ls.length then some (bs (Qa4 ls id) ls.length) else none
def Qad(ls:List Ji)(id:Int):Option Ji:=match Qep ls id with
 |some i=>ls[i]?
 |none=>none
def Qti(ls:List Ji)(x:Ji):Bool:=match Qad ls x.owner with
 |none=>false
 |some o=>if(o.kind !=1)||((x.kind==1)&&(x.owner !=x.id)) then false else if x.prev==0 then true else match Qad ls x.prev with
  |none=>false
  |some p=>if(p.kind !=2)||(p.key !=x.key) then false else decide (p.txg<x.txg)||((p.txg==x.txg)&&(x.kind==1))
def Qhw:Option Ka->List Ka->Bool
 |_,[]=>true
 |o,p::r=>if decide (p=Qfj)||(!(Qgx p)||(match o with|some q=>decide (Qgj q.at_ p.at_>=0)|none=>false)) then false else Qhw (some p) r
def Qpo(l:List Ka):Bool:=if decide ((l.length:Int)>240) then false else Qhw none l
def before{α:Type}(l:List α)(i:Nat):Option α:=match i with|0=>none|k+1=>l[k]?
def Qf2:Option Ji->List Ji->Bool
 |_,[]=>true
 |o,x::r=>if decide (x.id<1)||(decide (x.id>255)||((match o with|some q=>decide (x.id<=q.id)|none=>false)||((x.kind !=1)&&(x.kind !=2)))) then false else Qf2 (some x) r
def Qwv(all:List Ji)(x:Ji):Bool:=decide (x.txg>16777215)||(decide (x.key<0)||(decide (x.key>=8)||(!(Qgx x.root)||(!(Qpo x.dead)|| !(Qti all x)))))
def Qf1(all:List Ji):List Ji->Bool
 |[]=>true
 |x::r=>if Qwv all x then false else Qf1 all r
def Qay(ls:List Ji):Bool:=if decide ((ls.length:Int)>16) then false else if Qf2 none ls then Qf1 ls ls else false
structure Zv where
 set:Int
 obj:Int
 index:Int
 kind:Int
 links:Int
 size:Int
 n:Nat
 laid:Ka
 deriving DecidableEq
def Qw(c:Zv)(dv:V):List V:= .int .i64 c.set:: .int .i64 c.obj:: .int .i64 c.index:: .int .u8 c.kind:: .int .i64 c.links:: .int .i64 c.size::dv:: .int .i64 c.laid.at_:: .int .u32 c.laid.birth:: .int .u32 c.laid.iv:: .int .u32 c.laid.tag::[.int .u32 c.laid.sum]
def Qc0(c:Zv):Bool:=
 if decide (c.obj<0)||(decide (c.obj>=16)||(decide (c.index<0)||decide (c.index>15))) then false
 else if c.index==15 then
  (decide (c.kind<=7)&&(decide ((if c.size<c.links then c.size else c.links)>=0)&&(decide (c.links<=255)&&decide (c.size<=3840))))&&(((c.n:Int)==0)&&(decide (c.laid=Qfj)&&(decide (c.kind>0)||((c.kind==0)&&((c.links==0)&&(c.size==0))))))
 else((c.kind==0)&&((c.links==0)&&(c.size==0)))&&((((c.n:Int)==0)||((c.n:Int)==256))&&Qgx c.laid)
def Ql5(a b:Zv):Int:=Qra [Qgj a.set b.set,Qgj a.obj b.obj,Qgj a.index b.index]
def Bw(many:Int)(k:List UInt8):Bool:=decide ((k.length:Int)>0)&&(((k.length:Int) !=many)||((many==24)&&decide (k=List.replicate 24 0)))
def Qdv(l:List (List UInt8))(many:Int):Bool:=((l.length:Int)==8)&& !(l.any (Bw many))
def K0:List V->List (List UInt8)->Prop
 |cs,[]=>cs=[]
 |cs,x::r=>∃v d,cs=v::d/\Qk v x/\K0 d r
def Kf(v:V)(l:List (List UInt8)):Prop:=∃cs,K0 cs l/\Qv 1 v cs l.length
def Yi{α:Type}(p:α->Bool):Nat->List α->Int
 |_,[]=> -1
 |i,x::r=>if p x then(i:Int) else Yi p (i+1) r
def Qbg(l:List UInt8):Bool:=l.length==256&&l.all (fun b=>b<=2)&&((l.take 12).count 1==12)
def Qis(space:List UInt8)(i:Nat):Int:=(((space.getD i 0).toNat:Nat):Int)
def Qd6(d:Int)(tab:Bool)(epoch count:Int):Bool:= !((d !=0)||(!tab||(decide (epoch<1)||(decide (epoch>65535)||decide (count>65535)))))
def Yo(nid ng:Int)(x:Ji):Bool:=decide (x.id>=nid)||decide (x.guid>=ng)
structure Qqv where
 epoch:Int
 count:Int
 gen:Int
 root:Ka
 own:List Int
 lines:List Ji
 keys:List (List UInt8)
 loaded:List (List UInt8)
 changes:List Zv
 logged:Int
 nextId:Int
 nextGuid:Int
def ChangesC:List V->List Zv->Prop
 |cs,[]=>cs=[]
 |cs,c::r=>∃dv d,cs=Qw c dv++d/\Qm6 dv c.n/\ChangesC d r
def Qt2(v:V)(ls:List Zv):Prop:=∃cs,ChangesC cs ls/\Qv 12 v cs ls.length
def Qy(bv wv sv mv lv kv ov cv:V)(p:Qqv):List V:=bv::wv::sv:: .int .u32 p.epoch:: .int .u32 p.count:: .int .u32 p.gen:: .int .i64 p.root.at_:: .int .u32 p.root.birth:: .int .u32 p.root.iv:: .int .u32 p.root.tag:: .int .u32 p.root.sum::mv::lv::kv::ov::cv:: .int .i64 p.logged:: .int .i64 p.nextId::[.int .u32 p.nextGuid]
def Qi8(sp:Nat->Int):Option Int->List Int->Bool
 |_,[]=>true
 |o,a::r=>if decide (a<12)||(decide (a>=256)||((match o with|some q=>decide (a<=q)|none=>false)||(sp a.toNat !=1))) then false else Qi8 sp (some a) r
def Qrw(lines:List Ji):Option Zv->List Zv->Bool
 |_,[]=>true
 |o,c::r=>if(match Qad lines c.set with|none=>true|some l=>l.kind !=1)||(!(Qc0 c)||(match o with|some q=>decide (Ql5 q c>=0)|none=>false)) then false else Qrw lines (some c) r
def Qv6(d:Int)(tab:Bool)(p:Qqv):Bool:=(!(Qd6 d tab p.epoch p.count))||(decide (p.gen>16777215)||(!(Qgx p.root)||(decide (p.root=Qfj) !=(p.gen==0))))
def Q1u(p:Qqv):Bool:=(!(Qay p.lines))||((!(Qdv p.keys 24))||((!(Qdv p.loaded 16))||(decide (p.logged<0)||(decide (p.logged>8)||(decide (p.nextId<1)||decide (p.nextId>256))))))
def Q2j(d:Int)(tab:Bool)(sp:Nat->Int)(p:Qqv):Bool:=if Qv6 d tab p then false else if Qi8 sp none p.own then(if Q1u p then false else if Qrw p.lines none p.changes then !(p.lines.any (Yo p.nextId p.nextGuid)) else false) else false
theorem Zo{esz n:Nat}{v:V}{cells:List V}(h:Qv esz v cells n):v.scalar=true:=by obtain⟨_,⟨rfl,_⟩|⟨f,rfl⟩⟩:=h<;>rfl
theorem Qgu{g:Get}{l:Ji}{dv:V}(hd:Bm dv l.dead):frz g depth (.agg (Ja l dv))=some (.agg (Ja l dv)):=by
 have:=hd.frz (g:=g) 10;show Option.map V.agg (Qx (frz g 11) (Ja l dv))=_;have e:Qx (frz g 11) (Ja l dv)=some (Ja l dv):=by
  simp only[Ja]
  repeat' (first|refine Qa rfl ?_|refine Qa this ?_|rfl)
 rw[e];rfl
theorem LinesC.len:∀{ls:List Ji} {cs:List V},LinesC cs ls->cs.length=ls.length*13
 |[],cs,h=>by
  have:cs=[]:=h;subst this;rfl
 |x::rs,cs,h=>by
  obtain⟨dv,d,rfl,h1,h2⟩:=h;have:=h2.len;simp only[Zqp,Zq2,Zq4,Ja];omega
theorem LinesC.at_:∀{ls:List Ji} {cs:List V} {i:Nat} {l:Ji},LinesC cs ls->ls[i]?=some l->∃dv,(cs.drop (i*13)).take 13=Ja l dv/\Bm dv l.dead
 |[],cs,i,r,h,hi=>by simp at hi
 |x::rs,cs,0,r,h,hi=>by
  obtain⟨dv,d,rfl,h1,h2⟩:=h;simp only[List.getElem?_cons_zero,Zss] at hi;subst hi;exact⟨dv,by rfl,h1⟩
 |x::rs,cs,i+1,r,h,hi=>by
  obtain⟨dv,d,rfl,h1,h2⟩:=h;simp only[List.getElem?_cons_succ] at hi;rw[show(i+1)*13=(Ja x dv).length+i*13 by simp[Ja];omega,<-Zq5,List.drop_left];exact LinesC.at_ h2 hi
theorem Qir(c:Nat->Int):∀(n m i j:Nat),j-i<=n->j-i<=m->Qkk c n i j=Qkk c m i j
 |0,0,i,j,h,h2=>rfl
 |0,m+1,i,j,h,h2=>by simp only[Qkk];rw[if_neg (by omega)]
 |n+1,0,i,j,h,h2=>by simp only[Qkk];rw[if_neg (by omega)]
 |n+1,m+1,i,j,h,h2=>by
  simp only[Qkk];by_cases h1:i<j
  . rw[if_pos h1,if_pos h1,Qir c n m _ _ (by omega) (by omega),Qir c n m i _ (by omega) (by omega)]
  . rw[if_neg h1,if_neg h1]
theorem bsGo_t{c:Nat->Int}{i j:Nat}(h:i<j)(h2:decide (c ((i+j)/2)<0)=true):Qkk c (j-i) i j=Qkk c (j-((i+j)/2+1)) ((i+j)/2+1) j:=by obtain⟨m,hm⟩:∃m,j-i=m+1:=⟨j-i-1,by omega⟩;rw[hm];simp only[Qkk];rw[if_pos h,if_pos h2];exact Qir c _ _ _ _ (by omega) (by omega)
theorem bsGo_f{c:Nat->Int}{i j:Nat}(h:i<j)(h2:decide (c ((i+j)/2)<0)=false):Qkk c (j-i) i j=Qkk c ((i+j)/2-i) i ((i+j)/2):=by obtain⟨m,hm⟩:∃m,j-i=m+1:=⟨j-i-1,by omega⟩;rw[hm];simp only[Qkk];rw[if_pos h,if_neg (by simp only[h2];decide)];exact Qir c _ _ _ _ (by omega) (by omega)
theorem shr_u1(n:Nat):Qeo .shr .u64 (n:Int) 1=some (.int .u64 ((n/2:Nat):Int)):=by
 have e:min (1:Int).toNat (IntKind.u64).bits=1:=rfl;have e2:(n:Int).fdiv (2^1)=((n/2:Nat):Int):=by rw[Int.fdiv_eq_ediv_of_nonneg _ (by decide)];omega
 simp only[Qeo,e,e2];rw[if_neg (by omega)]
theorem Qms{ls:List Ji}{id:Int}{i:Nat}(h:Qep ls id=some i):i<ls.length:=by
 unfold Qep at h;split at h
 . rename_i hb;cases h;simp only[Qyh,Zqf] at hb;exact of_decide_eq_true hb.1
 . cases h
theorem LinesC.cells{ls:List Ji}{cs:List V}{i:Nat}(h:LinesC cs ls)(hi:i<ls.length):
 cs[i*13]?=some (.int .i64 ls[i].id)/\cs[i*13+1]?=some (.int .u8 ls[i].kind)/\cs[i*13+4]?=some (.int .u32 ls[i].txg)/\cs[i*13+6]?=some (.int .i64 ls[i].key):=by
 obtain⟨dv,h1,h2⟩:=h.at_ (Zpk hi);have key:∀k,k<13->cs[i*13+k]?=(Ja ls[i] dv)[k]?:=fun k hk=>by rw[<-h1,Zpx,if_pos hk,Zq6]
 exact⟨key 0 (by decide),key 1 (by decide),key 4 (by decide),key 6 (by decide)⟩
theorem Qlw(l:List Ka):(Y6 l).length=l.length*5:=by
 induction l with
 |nil=>rfl
 |cons x r ih=>
  have e:Y6 (x::r)=x.cells++Y6 r:=rfl;rw[e,Zqp,ih,Zq2];have:x.cells.length=5:=rfl;omega
theorem Qpe:∀(l:List Ka) (i:Nat) (h:i<l.length),((Y6 l).drop (i*5)).take 5=l[i].cells
 |x::r,0,h=>by rfl
 |x::r,i+1,h=>by
  have e:Y6 (x::r)=x.cells++Y6 r:=rfl;have e2:(i+1)*5=x.cells.length+i*5:=by have:x.cells.length=5:=rfl;omega
  rw[e,e2,<-Zq5,List.drop_left];exact Qpe r i (by simpa using h)
theorem X7(b:Bool):(okE b !=0)=!b:=by cases b<;>rfl
theorem Zaj(b:Bool):(okE b==0)=b:=by cases b<;>rfl
theorem Bk{g:Get}{c:Zv}{dv:V}(hd:Qm6 dv c.n):frz g depth (.agg (Qw c dv))=some (.agg (Qw c dv)):=by
 obtain⟨cells,hd⟩:=hd;have:=Qv.frz (g:=g) hd 10;show Option.map V.agg (Qx (frz g 11) (Qw c dv))=_;have e:Qx (frz g 11) (Qw c dv)=some (Qw c dv):=by
  simp only[Qw]
  repeat' (first|refine Qa rfl ?_|refine Qa this ?_|rfl)
 rw[e];rfl
theorem K0.len:∀{l:List (List UInt8)} {cs:List V},K0 cs l->cs.length=l.length
 |[],cs,h=>by
  have:cs=[]:=h;subst this;rfl
 |x::r,cs,h=>by
  obtain⟨v,d,rfl,h1,h2⟩:=h;simp only[Zq2,h2.len]
theorem K0.at_:∀{l:List (List UInt8)} {cs:List V} {i:Nat},K0 cs l->(h:i<l.length)->∃v,cs[i]?=some v/\Qk v l[i]
 |x::r,cs,0,h,hi=>by
  obtain⟨v,d,rfl,h1,h2⟩:=h;exact⟨v,rfl,h1⟩
 |x::r,cs,i+1,h,hi=>by
  obtain⟨v,d,rfl,h1,h2⟩:=h;obtain⟨w,h3,h4⟩:=h2.at_ (i:=i) (by simpa using hi);exact⟨w,by simpa using h3,h4⟩
theorem Qn1{α:Type}(p:α->Bool):∀(l:List α) (i:Nat),(Yi p i l>=0)↔l.any p=true
 |[],i=>by simp[Yi]
 |x::r,i=>by
  have e:Yi p i (x::r)=if p x=true then(i:Int) else Yi p (i+1) r:=rfl
  by_cases h:p x=true
  . rw[e,if_pos h,List.any_cons,h];simp
  . have h' :p x=false:=by simpa using h
    rw[e,if_neg h,List.any_cons,h',Zqr];exact Qn1 p r (i+1)
theorem Qna{α:Type}(p:α->Bool)(l:List α)(i:Nat):decide (Yi p i l>=0)=l.any p:=by rw[Zq7,decide_eq_true_eq];exact Qn1 p l i
theorem le2(b:UInt8):((b.toNat:Int)<=2)↔(b<=2):=by rw[UInt8.le_iff_toNat_le];simp;omega
theorem okE_if(b:Bool):(if b=true then(0:Int) else 8)=okE b:=rfl
theorem Q15{F:AM.Frame}(hw:Q0 (fun f _=>Nat.ble 1 f) F=true){n:Nat}(hn:1<=n):Q0 (fun f _=>Nat.ble n f) F=true:=Be (Qlk hn) F hw
theorem pop3{F G:AM.Frame}{v:V}(hv:v.refs (fun f _=>Nat.ble 3 f)=false)(hw:Q0 (fun f _=>Nat.ble 1 f) F=true):Bs 3 v [F,[],[],G]=[F,[],[]]:=by refine Br (H:=[F,[],[]]) (G:=[G]) hv ?_;show(Q0 _ F&&true)=true;rw[Q15 hw (by simp)];rfl
theorem pop2{F G:AM.Frame}{v:V}(hv:v.refs (fun f _=>Nat.ble 2 f)=false)(hw:Q0 (fun f _=>Nat.ble 1 f) F=true):Bs 2 v [F,[],G]=[F,[]]:=by refine Br (H:=[F,[]]) (G:=[G]) hv ?_;show(Q0 _ F&&true)=true;rw[Q15 hw (by simp)];rfl
theorem pop1{F G:AM.Frame}{v:V}(hv:v.refs (fun f _=>Nat.ble 1 f)=false)(hw:Q0 (fun f _=>Nat.ble 1 f) F=true):Bs 1 v [F,G]=[F]:=by refine Br (H:=[F]) (G:=[G]) hv ?_;show(Q0 _ F&&true)=true;rw[Q15 hw (by simp)];rfl
theorem ChangesC.len:∀{ls:List Zv} {cs:List V},ChangesC cs ls->cs.length=ls.length*12
 |[],cs,h=>by
  have:cs=[]:=h;subst this;rfl
 |x::rs,cs,h=>by
  obtain⟨dv,d,rfl,h1,h2⟩:=h;have:=h2.len;simp only[Zqp,Zq2,Zq4,Qw];omega
theorem ChangesC.at_:∀{ls:List Zv} {cs:List V} {i:Nat} {l:Zv},ChangesC cs ls->ls[i]?=some l->∃dv,(cs.drop (i*12)).take 12=Qw l dv/\Qm6 dv l.n
 |[],cs,i,r,h,hi=>by simp at hi
 |x::rs,cs,0,r,h,hi=>by
  obtain⟨dv,d,rfl,h1,h2⟩:=h;simp only[List.getElem?_cons_zero,Zss] at hi;subst hi;exact⟨dv,by rfl,h1⟩
 |x::rs,cs,i+1,r,h,hi=>by
  obtain⟨dv,d,rfl,h1,h2⟩:=h;simp only[List.getElem?_cons_succ] at hi;rw[show(i+1)*12=(Qw x dv).length+i*12 by simp[Qw];omega,<-Zq5,List.drop_left];exact ChangesC.at_ h2 hi
end Go.AM
namespace Go.AM.BM
abbrev Prim:=Nat->Option Nat->Get->List V->Option (V×Option (Nat×Nat×O))
abbrev Qdb:=Nat->Get->List V->Option (V×List (Nat×Nat×O))
structure Pol where
 prim:FuncId->Option Prim
 loop:FuncId->Nat->Option (List V->Heap->Option (List V×Heap)):=fun _ _=>none
 /-- What they answer becomes cells that no longer change. -/
 fix:FuncId->Bool:=fun _=>false
 /-- Which of their arguments becomes cells that no longer change. -/
 fixA:FuncId->Option Nat:=fun _=>none
 /-- Functions answered at once, with any number of writes. -/
 prims:FuncId->Option Qdb:=fun _=>none
def eqbG:Option O->Option O->Bool
 |none,none=>true
 |some a,some b=>a.eqb b
 |_,_=>false
theorem Qzw:∀(a b:Option O),eqbG a b=true↔a=b:=by intro a b;cases a<;>cases b<;>simp[eqbG,O.eqb_iff]
def Qho:Frame->Nat
 |[]=>0
 |(k,_)::r=>max (k+1) (Qho r)
def Q5:Heap->Nat
 |[]=>0
 |f::_=>Qho f
def wrL:Heap->List (Nat×Nat×O)->Heap
 |H,[]=>H
 |H,(f,s,o)::r=>wrL (hset H f s o) r
def atN(o:Oper)(nm:Nat):Oper:={o with dst:=some nm}
def Qhc(P:Program)(g:Get)(nm:Nat)(t t2:TypeId)(s x:V):Option (V×List (Nat×Nat×O)):=
 match P.underlying t,s with
 |some (.slice e),.mS f sl 0 len none e' =>(match sz P e,byt P e,zeroCells P e with
  |some n,some by_,some z=>if z.length=n/\e' =n/\0<n then
   (match g f sl,g 0 nm,Jp P g t2 n by_ z x with
   |some (.cells xs),none,some (new,m+1)=>if xs.length=len*n/\J6 (len+(m+1)) by_/\new.all V.scalar then
     some (.mS 0 nm 0 (len+(m+1)) none n,[(f,sl,.dead),(0,nm,.cells (xs++new))]) else none
   |_,_,_=>none) else none
  |_,_,_=>none)
 |_,_=>none
def Qsd(P:Program)(g:Get)(t:TypeId)(x l h:V):Option (V×List (Nat×Nat×O)):=
 match P.underlying t,x,l,h with
 |some (.slice e),.mS f s o len none e',.int _ l,.int _ h=>(match sz P e,g f s with
  |some n,some (.cells xs)=>if e' =n/\(len:Int)<h/\0<=l/\l<h/\o+h.toNat*n<=xs.length/\0<n then some (.mS f s (o+l.toNat*n) (h-l).toNat none n,[]) else none
  |_,_=>none)
 |_,_,_,_=>none
def J4(P:Program)(g:Get)(r:Operand->V)(nm:Nat)(o:Op):Option (V×List (Nat×Nat×O)):=
 match o with
 | .slice t x (some l) (some h) none=>Qsd P g t (r x) (r l) (r h)
 | .call c=>(match c.callee,c.args.toList,c.argTypes.toList with
   | .builtin .append,[s,x],t::t2::_=>Qhc P g nm t t2 (r s) (r x)
   |_,_,_=>none)
 |_=>none
section
variable (P : Program) (pol : Pol) (C : Call)
def Qiv(g:Get)(v:V):Option (V×Option (Nat×Nat×O)):=match v with
 | .mS f s o len cap esz=>(match g f s with
   |some (.cells xs)=>if o+len*esz<=xs.length/\Qo xs=true then some (.iS ((xs.drop o).take (len*esz)) len (cap==some len),some (f,s,.dead)) else none
   |_=>none)
 |v=>some (v,none)
def Qxg(g:Get)(v:V):Option (V×Option (Nat×Nat×O)):=match v with
 | .tuple (x::r)=>(Qiv g x).map fun y=>(.tuple (y.1::r),y.2)
 |v=>Qiv g v
def Qy2(b:Bool)(x:Option (Rt×Heap)):Option (Rt×Heap):=match b with
 |false=>x
 |true=>(match x with
  |some (.ret v,H)=>(match Qxg (Qd H) v with
   |some (v',w)=>some (.ret v',wr H w)
   |none=>none)
  |x=>x)
def Qk2(g:Get)(i:Option Nat)(args:List V):Option (List V×Option (Nat×Nat×O)):=match i with
 |none=>some (args,none)
 |some i=>(match args[i]? with
  |some x=>(match Qiv g x with
   |some (y,w)=>some (args.set i y,w)
   |none=>none)
  |none=>none)
def callOp(nm:Nat)(f:FuncId)(args:List V)(H:Heap):Option (Rt×Heap):=
 match pol.prims f with
 |some g=>(g nm (Qd H) args).map fun x=>(.ret x.1,wrL H x.2)
 |none=>(match pol.prim f with
  |some g=>(g 0 (some nm) (Qd H) args).map fun x=>(.ret x.1,wr H x.2)
  |none=>(match Qk2 (Qd H) (pol.fixA f) args with
   |some (as,w)=>Qy2 (pol.fix f) (C (some f) as (wr H w))
   |none=>none))
def Q1(nm:Nat)(t:List V)(H:Heap)(o:Oper):Option (Ex×List V×Heap):=
 match Zm P (fun _=>true) 0 (Qd H) (rho t) (atN o nm) with
 |none=>(match J4 P (Qd H) (rho t) nm o.op with
  |some (v,ws)=>some (.normal,Qs t o.dst v,wrL H ws)
  |none=>none)
 |some (.val v w)=>some (.normal,Qs t o.dst v,wr H w)
 |some (.panic v)=>some (.panic v,t,H)
 |some (.call f args)=>(match callOp pol C (Q5 H) f args H with
  |some (.ret v,H')=>some (.normal,Qs t o.dst v,H')
  |some (.pan v,H')=>some (.panic v,t,H')
  |none=>none)
 |some (.round f s args)=>(match C none (.yield f s::args) H with
  |some (.ret v,H')=>some (.normal,Qs t o.dst v,H')
  |_=>none)
def Zf(ops:Array Oper):List Oper->List V->Heap->Option (Ex×List V×Heap)
 |[],t,H=>some (.normal,t,H)
 |o::r,t,H=>match Zw ops t o with
  |none=>none
  |some false=>Zf ops r (Qs t o.dst nov) H
  |some true=>(match Q1 P pol C (Q5 H) t H o with
   |some (.normal,t,H)=>Zf ops r t H
   |x=>x)
def Zu(body:Kv):Nat->Kv
 |0,_,_=>none
 |n+1,t,H=>match body t H with
  |some (.normal,t,H)=>Zu body n t H
  |r=>r
end
inductive FP where
 |quiet
 |ids(r w:List (Nat×Nat))(fresh:Bool)
 |call(k:Nat->Nat->Bool)
 |all
def FP.indep:FP->FP->Bool
 | .quiet,_|_,.quiet=>true
 | .ids r w _,.ids r' w' _=>!Qcl w r' &&!Qcl w w' &&!Qcl w' r
 | .call k,.ids r w fresh=>(w.isEmpty||fresh)&&r.all fun x=>k x.1 x.2
 | .ids r w _,.call k=>w.isEmpty&&r.all fun x=>k x.1 x.2
 |_,_=>false
def Qf0(ws:List (Nat×Nat×O)):List (Nat×Nat):=ws.map fun x=>(x.1,x.2.1)
def B8(nm:Nat)(H:Heap):List (Nat×Nat×O)->Bool
 |[(f,s,_)]=>Nat.beq f 0&&Nat.beq s nm&&(Qd H 0 nm).isNone
 |_=>false
def Qi1(lim:Nat)(H H1:Heap):Nat->Nat->Bool:=fun f s=>Nat.ble lim (Q5 H)&&eqbG (Qd H f s) (Qd H1 f s)
section
variable (P : Program) (pol : Pol) (C : Call)
def Z0(lim nm:Nat)(t:List V)(H H1:Heap)(o:Oper):FP:=
 if Q9 o.op then .quiet else if Yy o.op then .all else
 match Zm P (fun _=>true) 0 (Qd H) (rho t) (atN o nm) with
 |some (.val _ w)=> .ids (Yp 0 (rho t) (atN o nm)) (Qf0 w.toList) (B8 nm H w.toList)
 |none=>(match J4 P (Qd H) (rho t) nm o.op with
  |some (_,ws)=> .ids (Yp 0 (rho t) (atN o nm)) (Qf0 ws) (B8 nm H ws)
  |none=> .all)
 |some (.call _ _)=> .call (Qi1 lim H H1)
 |_=> .all
def Q4(ops:Array Oper)(lim:Nat):Nat->List Oper->List V->Heap->Option (List V×Heap×List FP)
 |_,[],t,H=>some (t,H,[])
 |nm,o::r,t,H=>match Zw ops t o with
  |none=>none
  |some false=>(match Q4 ops lim (nm+1) r (Qs t o.dst nov) H with
   |some (t',H',T)=>some (t',H',.quiet::T)
   |none=>none)
  |some true=>(match Q1 P pol C nm t H o with
   |some (.normal,t1,H1)=>(match Q4 ops lim (nm+1) r t1 H1 with
    |some (t',H',T)=>some (t',H',Z0 P lim nm t H H1 o::T)
    |none=>none)
   |_=>none)
end
def okT(bef:Array Nat):List (FP×Nat)->Bool
 |[]=>true
 |(a,i)::r=>r.all (fun(b,j)=>(bef.getD j 0).testBit i||a.indep b)&&okT bef r
def FP.loud:FP->Bool
 | .quiet=>false
 |_=>true
def loud(T:List FP):List (FP×Nat):=T.zipIdx.filter fun x=>x.1.loud
def Qab(s:Nat)(t:List V)(H:Heap):Out:=
 match Qd H 0 s with
 |some (.loop st pend _ _ _)=>if st=1 then none else
   (match pend with
   |none=>some (.normal,t,hset H 0 s .dead)
   |some none=>some (.ret,t,hset H 0 s .dead)
   |some (some i)=>some (.exit i,t,hset H 0 s .dead))
 |_=>none
section
variable (P : Program) (pol : Pol) (C : Call) (L : Kv -> Kv) (fn : Nat)
mutual
def Q6:Code->Kv
 | .skip=>fun t H=>some (.normal,t,H)
 | .region _ ops draw=>fun t H=>if draw then(match Qd H 0 (Q5 H+ops.size) with
    |some _=>none
    |none=>(match Q4 P pol C ops (Q5 H+ops.size) (Q5 H) ops.toList t (hset H 0 (Q5 H+ops.size) .dead) with
     |some (t',H',T)=>if okT (Region.before ops) (loud T) then some (.normal,t',H') else none
     |none=>none)) else Zf P pol C ops ops.toList t H
 | .seq a b=>fun t H=>(match Q6 a t H with
   |some (.normal,t,H)=>Q6 b t H
   |r=>r)
 | .cond c x y=>fun t H=>(match rho t c with
   | .bool b=>if b then Q6 x t H else Q6 y t H
   |_=>none)
 | .block id b=>fun t H=>(match Q6 b t H with
   |some (.exit i,t,H)=>if i=id then some (.normal,t,H) else some (.exit i,t,H)
   |r=>r)
 | .loop b=>fun t H=>(match pol.loop fn (Zn b) with
   |some g=>(g t H).map fun x=>(.normal,x.1,x.2)
   |none=>L (fun t H=>match Zt b with
    |none=>Q6 b t H
    |some x=>(match Y3 (Qd H) (rho t x) with
     |some [c]=>Z7 b c.1 c.2 t H
     |_=>none)) t H)
 | .exit id=>fun t H=>some (.exit id,t,H)
 | .ret=>fun t H=>some (.ret,t,H)
 | .rangeFunc g _ a b=>fun t H=>(match rho t g with
   | .func (.func f) first cap=>(match Qd H 0 (Q5 H) with
     |none=>(match C (some f) (first++[.yield 0 (Q5 H)]++cap) (hset H 0 (Q5 H) (.loop 0 none fn (Ze a b) t)) with
      |some (.ret _,H2)=>Qab (Q5 H) t H2
      |_=>none)
     |some _=>none)
   |_=>none)
 |_=>fun _ _=>none
def Z7:Code->V->Option (Nat×Nat×O)->Kv
 | .region _ ops _=>fun v w t H=>(match ops.toList with
   |o::r=>Zf P pol C ops r (Qs t o.dst v) (wr H w)
   |[]=>none)
 | .seq a b=>fun v w t H=>(match Z7 a v w t H with
   |some (.normal,t,H)=>Q6 b t H
   |r=>r)
 |_=>fun _ _ _ _=>none
end
def Bd(fo so:Nat)(e:Ex)(H:Heap):Option (Rt×Heap):=
 match Qd H fo so with
 |some (.loop _ _ fL rid t0)=>(match e with
  | .normal=>some (.ret (.bool true),hset H fo so (.loop 0 none fL rid t0))
  | .ret=>some (.ret (.bool false),hset H fo so (.loop 2 (some none) fL rid t0))
  | .exit i=>some (.ret (.bool false),hset H fo so (.loop 2 (some (some i)) fL rid t0))
  | .panic _=>none)
 |_=>none
def Qba(fo so:Nat)(args:List V)(H:Heap):Option (Rt×Heap):=
 match Qd H fo so with
 |some (.loop 0 _ fL rid t0)=>(match Qn P fL rid with
  |some (ps,a,b)=>if args.length=ps.size then
    (match Q6 P pol C L fL a (Bo t0 (ps.toList.zip args)) H with
    |some (.normal,t1,H1)=>(match Qd H1 fo so with
     |some (.loop 0 pend fL' rid' t0')=>(match Q6 P pol C L fL b t1 (hset H1 fo so (.loop 1 pend fL' rid' t0')) with
      |some (e,_,H2)=>Bd fo so e H2
      |none=>none)
     |_=>none)
    |_=>none) else none
  |none=>none)
 |_=>none
def Qie:Code->Option (Array Oper×List Oper×Option Nat×Operand)
 | .region _ ops false=>(match ops.toList.reverse with
   |o::r=>(match o.guard,o.op with
    |none,.defer c=>(match c.callee,c.args.toList with
     | .value x,[]=>some (ops,r.reverse,o.dst,x)
     |_,_=>none)
    |_,_=>none)
   |[]=>none)
 |_=>none
def Qjx:Code->Bool
 | .seq a b=>(Qie a).isSome||Qjx b
 |_=>false
def noD:Out->Option (Ex×List V×Heap×List V)
 |some (e,t,H)=>some (e,t,H,[])
 |none=>none
def Qd1(fn:Nat):Code->List V->Heap->Option (Ex×List V×Heap×List V)
 | .seq a b,t,H=>(match Qie a with
   |some (ops,l,d,x)=>(match Zf P pol C ops l t H with
    |some (.normal,t1,H1)=>(match rho t1 x with
     | .func f p q=>(match Qd1 fn b (Qs t1 d nov) H1 with
       |some (ex,t2,H2,ds)=>some (ex,t2,H2,ds++[.func f p q])
       |none=>none)
     |_=>none)
    |_=>none)
   |none=>if(Q2 a).isEmpty then(match Q6 P pol C L fn a t H with
     |some (.normal,t1,H1)=>Qd1 fn b t1 H1
     |some (e,t1,H1)=>some (e,t1,H1,[])
     |none=>none)
    else noD (Q6 P pol C L fn (.seq a b) t H))
 |c,t,H=>noD (Q6 P pol C L fn c t H)
def Qmq(g:FuncId):Bool:=match P.funcs[g]? with
 |some F=>(match F.body with
  |some c=>(Q2 c).isEmpty&&!Qjx c
  |none=>false)
 |none=>false
def Qem:List V->Heap->Option Heap
 |[],H=>some H
 | .func (.func g) first cap::ds,H=>if Qmq P g then(match C (some g) (first++cap) H with
   |some (.ret _,H')=>Qem ds H'
   |_=>none) else none
 |_,_=>none
def Qxk(f:FuncId)(F:Func)(c:Code)(args:List V)(H:Heap):Option (Rt×Heap):=
 match Qd1 P pol C L f c (args++List.replicate (F.ntmps-args.length) .bad) H with
 |some (.normal,t,H',ds)|some (.ret,t,H',ds)=>(match Qem P C ds H' with
  |some H2=>(match Qa5 P F t H2 with
   |some v=>some (.ret v,H2)
   |none=>none)
  |none=>none)
 |_=>none
def Qbi(f:FuncId)(args:List V)(H:Heap):Option (Rt×Heap):=
 match P.funcs[f]? with
 |some F=>(match F.body with
  |some c=>if Qjx c then Qxk P pol C L f F c args H else(match Q6 P pol C L f c (args++List.replicate (F.ntmps-args.length) .bad) H with
   |some (.normal,t,H')|some (.ret,t,H')=>(match Qa5 P F t H' with
    |some v=>some (.ret v,H')
    |none=>none)
   |some (.panic v,_,H')=>some (.pan v,H')
   |_=>none)
  |none=>none)
 |none=>none
def Qd4(f:Option FuncId)(args:List V)(H:Heap):Option (Rt×Heap):=
 match f with
 |some f=>Qbi P pol C L f args H
 |none=>(match args with
  | .yield fo so::rest=>Qba P pol C L fo so rest H
  |_=>none)
end
def J0(P:Program)(pol:Pol):Nat->Call
 |0=>fun _ _ _=>none
 |n+1=>Qd4 P pol (J0 P pol n) (fun b=>Zu b n)
end Go.AM.BM
end
section
namespace Go.AM.BM
def GLe(g g' :Get):Prop:=∀f s x,g f s=some x->g' f s=some x
section
variable {P : Program} {mt : Nat -> Bool} {fr : Nat} {g g' : Get}
theorem B7(hg:GLe g g'){esz:Nat}{x:V}{r:List V×Nat}(h:Qj g esz x=some r):Qj g' esz x=some r:=by
 unfold Qj at h⊢;cases x<;>try exact h
 rename_i f s o0 len cap e0;cases hq:g f s with
 |none=>exfalso;simp only[hq] at h;(repeat' split at h)<;>cases h
 |some o=>simp only[hg _ _ _ hq];simp only[hq] at h;exact h
theorem Qzj{dst:Option Nat}{o:O}{v:Nat->V}(hd:∀d,dst=some d->g' fr d=g fr d):new g' fr dst o v=new g fr dst o v:=Y2 fun d e=>hd d e
theorem Qx9(hg:GLe g g'){t:TypeId}{x:V}{lo hi mx:Option V}{r:V}(h:Z9 P g t x lo hi mx=some r):Z9 P g' t x lo hi mx=some r:=by
 unfold Z9 at h⊢;cases x<;>try exact h
 rename_i f s o0;cases hq:g f s with
 |none=>exfalso;simp only[hq] at h;(repeat' split at h)<;>first|(cases h;done)|(simp at h;done)
 |some o=>simp only[hg _ _ _ hq];simp only[hq] at h;exact h
theorem Qvz(hg:GLe g g'){t:TypeId}{m k:V}{ok:Bool}{r:V}(h:Qcs P g t m k ok=some r):Qcs P g' t m k ok=some r:=by
 unfold Qcs at h⊢;cases m<;>try exact h
 rename_i f s;cases hq:g f s with
 |none=>exfalso;simp only[hq] at h;(repeat' split at h)<;>cases h
 |some o=>simp only[hg _ _ _ hq];simp only[hq] at h;exact h
theorem Qlc(hg:GLe g g'){t:TypeId}{m k x:V}{r:Zg}(h:updateV P g t m k x=some r):updateV P g' t m k x=some r:=by
 unfold updateV at h⊢;cases m<;>try exact h
 rename_i f s;cases hq:g f s with
 |none=>exfalso;simp only[hq] at h;(repeat' split at h)<;>cases h
 |some o=>simp only[hg _ _ _ hq];simp only[hq] at h;exact h
theorem Qhd(hg:GLe g g'){t2:TypeId}{n b:Nat}{z:List V}{x:V}{r:List V×Nat}(h:Jp P g t2 n b z x=some r):Jp P g' t2 n b z x=some r:=by
 unfold Jp at h⊢;split at h<;>try exact h
 exact B7 hg h
theorem Q21{dst:Option Nat}{cs chk:List V}{n esz:Nat}(hd:∀d,dst=some d->g' fr d=g fr d):grown mt g' fr dst cs chk n esz=grown mt g fr dst cs chk n esz:=Qd7 fun d e=>hd d e
theorem Qs4(hg:GLe g g'){dst:Option Nat}(hd:∀d,dst=some d->g' fr d=g fr d){n b m:Nat}{s:V}{nw:List V}{st:Zg}(h:appendTo mt fr g dst n b s nw m=some st):appendTo mt fr g' dst n b s nw m=some st:=by
 unfold appendTo at h⊢;have e:∀cs chk n esz,grown mt g' fr dst cs chk n esz=grown mt g fr dst cs chk n esz:=fun cs chk n esz=>Q21 hd;simp only[e];cases s<;>try exact h
 case iS cs len full=>cases full<;>exact h
 case gS f s cs len e0=>
  cases hq:g f s with
  |none=>exfalso;simp only[hq] at h;(repeat' split at h)<;>cases h
  |some o=>simp only[hg _ _ _ hq];simp only[hq] at h;exact h
 rename_i f s o0 len cap e0;cases hq:g f s with
 |none=>exfalso;simp only[hq] at h;(repeat' split at h)<;>cases h
 |some o=>simp only[hg _ _ _ hq];simp only[hq] at h;exact h
theorem Qvy(hg:GLe g g'){dst:Option Nat}(hd:∀d,dst=some d->g' fr d=g fr d){t t2:TypeId}{s x:V}{st:Zg}(h:Qp P mt fr g dst t t2 s x=some st):Qp P mt fr g' dst t t2 s x=some st:=by
 unfold Qp at h⊢;split at h<;>try (cases h;done)
 split at h<;>try (cases h;done)
 split at h<;>try (cases h;done)
 rename_i h5;rw[if_pos h5];split at h
 . cases h
 . rename_i he;rw[Qhd hg he];exact h
 . rename_i he;rw[Qhd hg he];exact Qs4 hg hd h
theorem Q4e(hg:GLe g g'){t:TypeId}{x:V}{r:V}(h:B0 P g t x=some r):B0 P g' t x=some r:=by
 unfold B0 at h⊢;cases hu:P.underlying t with
 |none=>rw[hu] at h;cases h
 |some d=>
  rw[hu] at h;cases d<;>cases x<;>first|exact h|(cases h;done)|skip
  rename_i f s;cases hq:g f s with
  |none=>exfalso;simp only[hq] at h;cases h
  |some o=>simp only[hg _ _ _ hq];simp only[hq] at h;exact h
theorem Qv3(hg:GLe g g'){n:Nat}{x:V}{r:List V×Nat}(h:Ba g n x=some r):Ba g' n x=some r:=by
 unfold Ba at h⊢;split at h<;>try exact h
 exact B7 hg h
theorem Qx6(hg:GLe g g'){n m:Nat}{d:V}{cs:List V}{r:Zg}(h:Qau g n d cs m=some r):Qau g' n d cs m=some r:=by
 unfold Qau at h⊢;cases d<;>try exact h
 rename_i f s o0 len cap e0;cases hq:g f s with
 |none=>exfalso;simp only[hq] at h;(repeat' split at h)<;>cases h
 |some o=>simp only[hg _ _ _ hq];simp only[hq] at h;exact h
theorem Q17(hg:GLe g g'){t:TypeId}{d s:V}{r:Zg}(h:Qa3 P g t d s=some r):Qa3 P g' t d s=some r:=by
 unfold Qa3 at h⊢;split at h<;>try (cases h;done)
 split at h<;>try (cases h;done)
 split at h<;>try (cases h;done)
 rename_i he;rw[Qv3 hg he];exact Qx6 hg h
theorem Qu4(hg:GLe g g'){t:TypeId}{m k:V}{r:Zg}(h:Qbx P g t m k=some r):Qbx P g' t m k=some r:=by
 unfold Qbx at h⊢;cases m<;>try exact h
 rename_i f s;cases hq:g f s with
 |none=>exfalso;simp only[hq] at h;(repeat' split at h)<;>cases h
 |some o=>simp only[hg _ _ _ hq];simp only[hq] at h;exact h
theorem Q44(hg:GLe g g'){t:TypeId}{d:V}{r:Zg}(h:AM.clearV P g t d=some r):AM.clearV P g' t d=some r:=by
 unfold AM.clearV at h⊢;cases d<;>try exact h
 rename_i f s o len c e;by_cases h0:len=0
 . simp only[h0,if_true] at h⊢;exact h
 simp only[h0,if_false] at h⊢;cases hq:g f s with
 |none=>exfalso;simp only[hq] at h;(repeat' split at h)<;>cases h
 |some o=>simp only[hg _ _ _ hq];simp only[hq] at h;exact h
theorem Qse(hg:GLe g g'){s d:TypeId}{x:V}{r:Zg}(h:convertV P g s d x=some r):convertV P g' s d x=some r:=by
 unfold convertV at h⊢;split at h<;>try exact h
 . split at h<;>try (cases h;done)
   split at h<;>try (cases h;done)
   rename_i he;rw[B7 hg he];exact h
 . split at h<;>try (cases h;done)
   rename_i h1;rw[if_pos h1];split at h<;>try (cases h;done)
   rename_i h2 h3;simp only[h2,hg _ _ _ h3];exact h
theorem Qss(hg:GLe g g'){dst:Option Nat}(hd:∀d,dst=some d->g' fr d=g fr d){b:Builtin}{ts:Array TypeId}{args:List V}{r:Zg}(h:builtinV P mt fr g dst b ts args=some r):builtinV P mt fr g' dst b ts args=some r:=by
 unfold builtinV at h⊢;split at h<;>try exact h
 . split at h<;>try (cases h;done)
   exact Qvy hg hd h
 . split at h<;>try (cases h;done)
   obtain⟨v,h2,h3⟩:=Zq8.1 h;rw[Q4e hg h2,<-h3];rfl
 . split at h<;>try (cases h;done)
   exact Q17 hg h
 . split at h<;>try (cases h;done)
   exact Qu4 hg h
 . split at h<;>try (cases h;done)
   exact Q44 hg h
theorem Qxv(hg:GLe g g'){dst:Option Nat}(hd:∀d,dst=some d->g' fr d=g fr d){t:TypeId}{x:V}{r:Zg}(h:rangeV P g fr dst t x=some r):rangeV P g' fr dst t x=some r:=by
 unfold rangeV at h⊢;have nw:∀(ob:O) (v:Nat->V),new g' fr dst ob v=new g fr dst ob v:=fun ob v=>Qzj hd;simp only[nw];cases hu:P.underlying t with
 |none=>rw[hu] at h;cases h
 |some d=>
  rw[hu] at h;cases d<;>cases x<;>first|exact h|(cases h;done)|skip
  rename_i f s;cases hq:g f s with
  |none=>exfalso;simp only[hq] at h;cases h
  |some o=>simp only[hg _ _ _ hq];simp only[hq] at h;exact h
theorem Qxy(hg:GLe g g'){x:V}{r:V}(h:Qbl g x=some r):Qbl g' x=some r:=by
 unfold Qbl at h⊢;split at h<;>try (cases h;done)
 split at h<;>try (cases h;done)
 rename_i h1;rw[hg _ _ _ h1];simp only;split at h<;>try (cases h;done)
 rename_i h2 h3;simp only[hg _ _ _ h2,h3];exact h
theorem Qq1(hg:GLe g g'){t:TypeId}{m k:V}{r:Zg}(h:mapEntryV P g t m k=some r):mapEntryV P g' t m k=some r:=by
 unfold mapEntryV at h⊢;cases m<;>try exact h
 rename_i f s;cases hq:g f s with
 |none=>exfalso;simp only[hq] at h;(repeat' split at h)<;>cases h
 |some o=>simp only[hg _ _ _ hq];simp only[hq] at h;exact h
theorem Qme(hg:GLe g g'){m s x:V}{r:Zg}(h:entryStoreV g m s x=some r):entryStoreV g' m s x=some r:=by
 unfold entryStoreV at h⊢;split at h<;>try (cases h;done)
 split at h<;>try (cases h;done)
 rename_i h1;rw[hg _ _ _ h1];exact h
theorem Qpi{α β:Type}{a b:Option α}{f:α->β}{r:β}(hab:∀x,a=some x->b=some x)(h:a.map f=some r):b.map f=some r:=by obtain⟨v,h2,h3⟩:=Zq8.1 h;rw[hab _ h2,<-h3];rfl
theorem Q0s(hg:GLe g g'){x:V}{r:Zg}(h:nextS g x=some r):nextS g' x=some r:=by
 unfold nextS at h⊢;split at h
 case h_2=>cases h
 split at h
 case h_2=>cases h
 rename_i hi;rw[hg _ _ _ hi];exact h
theorem Qan(hg:GLe g g'){ρ:Operand->V}{o:Oper}(hd:∀d,o.dst=some d->g' fr d=g fr d){st:Zg}(h:Zm P mt fr g ρ o=some st):Zm P mt fr g' ρ o=some st:=by
 have nw:∀(ob:O) (v:Nat->V),new g' fr o.dst ob v=new g fr o.dst ob v:=fun ob v=>Qzj hd;unfold Zm at h⊢;cases ho:o.op<;>rw[ho] at h<;>simp only[nw] at h⊢<;>try exact h
 case load=>
  split at h<;>try exact h
  split at h<;>try (cases h;done)
  rename_i he;rw[hg _ _ _ he];exact h
 case store=>
  split at h<;>try (cases h;done)
  split at h<;>try (cases h;done)
  rename_i he;rw[hg _ _ _ he];exact h
 case convert=>
  split at h
  . exact h
  . exact Qse hg h
 case slice=>exact Qpi (fun x hx=>Qx9 hg hx) h
 case lookup=>exact Qpi (fun x hx=>Qvz hg hx) h
 case mapUpdate=>exact Qlc hg h
 case insert=>exact Qlc hg h
 case call c=>
  cases hc:c.callee<;>rw[hc] at h<;>simp only at h⊢<;>try exact h
  exact Qss hg hd h
 case range=>exact Qxv hg hd h
 case entry=>exact Qpi (fun x hx=>Qxy hg hx) h
 case next=>
  split at h
  . rename_i hb;simp only[hb,if_true];exact Q0s hg h
  . cases h
 case mapEntry=>exact Qq1 hg h
 case entryStore=>exact Qme hg h
def Tgt(g:Get)(fr:Nat)(dst:Option Nat)(st:Zg):Prop:=∀v f s o,st= .val v (some (f,s,o))->(∃x,g f s=some x)\/(f=fr/\dst=some s)
theorem Tgt.none{dst:Option Nat}{v:V}:Tgt g fr dst (.val v none):=fun _ _ _ _ h=>by cases h
theorem Tgt.of{dst:Option Nat}{v:V}{f s:Nat}{o x:O}(h:g f s=some x):Tgt g fr dst (.val v (some (f,s,o))):=fun _ _ _ _ e=>by cases e;exact .inl ⟨x,h⟩
theorem Qia{dst:Option Nat}{o:O}{v:Nat->V}{st:Zg}(h:new g fr dst o v=some st):Tgt g fr dst st:=by
 unfold new at h
 (repeat' split at h)<;>cases h
 exact fun _ _ _ _ e=>by cases e;exact .inr ⟨rfl,rfl⟩
theorem Q4x{dst:Option Nat}{cs chk:List V}{n esz:Nat}{st:Zg}(h:grown mt g fr dst cs chk n esz=some st):Tgt g fr dst st:=by
 unfold grown at h
 (repeat' split at h)<;>first|(cases h;done)|exact Qia h
theorem Qmz{dst:Option Nat}{t:TypeId}{m k x:V}{st:Zg}(h:updateV P g t m k x=some st):Tgt g fr dst st:=by
 unfold updateV at h
 (repeat' split at h)<;>cases h<;>exact Tgt.of (by assumption)
theorem Qwy{dst:Option Nat}{n b m:Nat}{s:V}{nw:List V}{st:Zg}(h:appendTo mt fr g dst n b s nw m=some st):Tgt g fr dst st:=by
 unfold appendTo at h
 (repeat' split at h)<;>first|(cases h;done)|exact Q4x h|(cases h;exact Tgt.of (by assumption))
theorem Qza{dst:Option Nat}{t t2:TypeId}{s x:V}{st:Zg}(h:Qp P mt fr g dst t t2 s x=some st):Tgt g fr dst st:=by
 unfold Qp at h
 (repeat' split at h)<;>first|(cases h;done)|exact Qwy h|(cases h;exact Tgt.none)
theorem Q6b{dst:Option Nat}{t:TypeId}{d s:V}{st:Zg}(h:Qa3 P g t d s=some st):Tgt g fr dst st:=by
 unfold Qa3 Qau at h
 (repeat' split at h)<;>first|(cases h;done)|(cases h;exact Tgt.none)|(cases h;exact Tgt.of (by assumption))
theorem Qxt{dst:Option Nat}{t:TypeId}{m k:V}{st:Zg}(h:Qbx P g t m k=some st):Tgt g fr dst st:=by
 unfold Qbx at h
 (repeat' split at h)<;>first|(cases h;done)|(cases h;exact Tgt.none)|(cases h;exact Tgt.of (by assumption))
theorem Q8j{dst:Option Nat}{t:TypeId}{d:V}{st:Zg}(h:AM.clearV P g t d=some st):Tgt g fr dst st:=by
 unfold AM.clearV at h
 (repeat' split at h)<;>first|(cases h;done)|(cases h;exact Tgt.none)|(cases h;exact Tgt.of (by assumption))
theorem Q6x{dst:Option Nat}{x:V}{st:Zg}(h:nextS g x=some st):Tgt g fr dst st:=by
 unfold nextS at h
 (repeat' split at h)<;>first|(cases h;done)|(cases h;exact Tgt.of (by assumption))|(cases h;exact Tgt.none)
theorem Qu7{dst:Option Nat}{s d:TypeId}{x:V}{st:Zg}(h:convertV P g s d x=some st):Tgt g fr dst st:=by
 unfold convertV at h
 (repeat' split at h)<;>first|(cases h;done)|(cases h;exact Tgt.none)|(cases h;exact Tgt.of (by assumption))|(obtain⟨_,_,rfl⟩:=Zq8.1 h;exact Tgt.none)
theorem Qyf{dst:Option Nat}{x:Option V}{st:Zg}(h:(x.map fun v=>Zg.val v none)=some st):Tgt g fr dst st:=by obtain⟨_,_,rfl⟩:=Zq8.1 h;exact Tgt.none
theorem Qvk{dst:Option Nat}{b:Builtin}{ts:Array TypeId}{args:List V}{st:Zg}(h:builtinV P mt fr g dst b ts args=some st):Tgt g fr dst st:=by
 unfold builtinV at h
 (repeat' split at h)<;>first|(cases h;done)|exact Qza h|exact Q6b h|exact Qxt h|exact Q8j h|exact Qyf h
theorem Q24{dst:Option Nat}{t:TypeId}{x:V}{st:Zg}(h:rangeV P g fr dst t x=some st):Tgt g fr dst st:=by
 unfold rangeV at h
 (repeat' split at h)<;>first|(cases h;done)|exact Qia h
theorem Qs9{dst:Option Nat}{t:TypeId}{m k:V}{st:Zg}(h:mapEntryV P g t m k=some st):Tgt g fr dst st:=by
 unfold mapEntryV at h
 (repeat' split at h)<;>first|(cases h;done)|(cases h;exact Tgt.of (by assumption))
theorem Qn7{dst:Option Nat}{m s x:V}{st:Zg}(h:entryStoreV g m s x=some st):Tgt g fr dst st:=by
 unfold entryStoreV at h;split at h<;>try (cases h;done)
 split at h<;>try (cases h;done)
 obtain⟨_,_,rfl⟩:=Zq8.1 h;exact Tgt.of (by assumption)
theorem Zbl{ρ:Operand->V}{o:Oper}{st:Zg}(h:Zm P mt fr g ρ o=some st):Tgt g fr o.dst st:=by
 unfold Zm at h;cases ho:o.op<;>rw[ho] at h<;>simp only at h
 case alloc=>obtain⟨_,_,h⟩:=Option.bind_eq_some_iff.1 h;exact Qia h
 case box=>
  obtain⟨_,_,h⟩:=Option.bind_eq_some_iff.1 h;split at h
  case h_2=>cases h
  split at h
  . exact Qia h
  . split at h
    . cases h;exact Tgt.none
    . cases h
 case convert=>
  split at h
  . exact Qia h
  . exact Qu7 h
 case mapUpdate=>exact Qmz h
 case insert=>exact Qmz h
 case range=>exact Q24 h
 case next=>
  split at h
  . exact Q6x h
  . cases h
 case mapEntry=>exact Qs9 h
 case entryStore=>exact Qn7 h
 case call c=>
  split at h
  . exact Qvk h
  . split at h<;>cases h<;>exact fun _ _ _ _ e=>by cases e
  . cases h
 all_goals ((repeat' split at h)<;>first|(cases h;done)|exact Qyf h|exact Qia h|(cases h;exact Tgt.none)|(cases h;exact Tgt.of (by assumption))|(cases h;exact fun _ _ _ _ e=>by cases e))
theorem Q07(hg:GLe g g'){nm:Nat}(hd:g' 0 nm=g 0 nm){t t2:TypeId}{s x:V}{r:V×List (Nat×Nat×O)}(h:Qhc P g nm t t2 s x=some r):Qhc P g' nm t t2 s x=some r:=by
 unfold Qhc at h⊢;split at h<;>try (cases h;done)
 split at h<;>try (cases h;done)
 split at h<;>try (cases h;done)
 rename_i h1;rw[if_pos h1];split at h<;>try (cases h;done)
 rename_i h2 h3 h4;rw[hg _ _ _ h2,hd,h3,Qhd hg h4];exact h
theorem Q6j(hg:GLe g g'){t:TypeId}{x l h:V}{r:V×List (Nat×Nat×O)}(e:Qsd P g t x l h=some r):Qsd P g' t x l h=some r:=by
 unfold Qsd at e⊢;split at e<;>try (cases e;done)
 split at e<;>try (cases e;done)
 rename_i h1 h2;rw[h1,hg _ _ _ h2];exact e
theorem Q7b{t:TypeId}{x l h v:V}{ws:List (Nat×Nat×O)}(e:Qsd P g t x l h=some (v,ws)):ws=[]:=by
 unfold Qsd at e
 (repeat' split at e)<;>cases e
 rfl
theorem Qnx(hg:GLe g g'){nm:Nat}(hd:g' 0 nm=g 0 nm){ρ:Operand->V}{o:Op}{r:V×List (Nat×Nat×O)}(h:J4 P g ρ nm o=some r):J4 P g' ρ nm o=some r:=by
 unfold J4 at h⊢;split at h<;>try (cases h;done)
 . exact Q6j hg h
 split at h<;>try (cases h;done)
 . exact Q07 hg hd h
theorem Q2t{nm:Nat}{ρ:Operand->V}{o:Op}{v:V}{ws:List (Nat×Nat×O)}(h:J4 P g ρ nm o=some (v,ws)):∀x∈ws,(∃y,g x.1 x.2.1=some y)\/(x.1=0/\x.2.1=nm):=by
 unfold J4 at h;split at h<;>try (cases h;done)
 . rw[Q7b h];intro x hx;cases hx
 split at h<;>try (cases h;done)
 . unfold Qhc at h
   (repeat' split at h)<;>cases h
   rename_i h2 h3 h4 _;intro x hx;simp only[Zpy,List.not_mem_nil,or_false] at hx;rcases hx with rfl|rfl
   . exact .inl ⟨_,h2⟩
   . exact .inr ⟨rfl,rfl⟩
end
end Go.AM.BM
end
