/- This file holds in one the texts DK, EP, DL, TP, TP2, TP3, LP, DK2, LP2, Bx29; each says at its head what it proves. -/
import Derived.Test.YtjllfbejpjonnaaGreatDoorT10
import Derived.Test.YtjllfbejpjonnaaGreatDoorT12
import Derived.Test.YtjllfbejpjonnaaGreatDoorT16
import Derived.Test.YtjllfbejpjonnaaGreatDoorT17
set_option linter.unusedSimpArgs false
set_option linter.unusedVariables false
noncomputable section
section
namespace Go.AM.BM
def isNumB:V->Bool
 | .int _ _=>true
 |_=>false
def Q3b(v:V):Bool:=match v with
 | .iS c n _=>Nat.beq n 256&&(Nat.beq c.length 256&&c.all isNumB)
 |_=>false
def Qry:V->List V
 | .iS c _ _=>c
 |_=>[]
def Qeg:List V->Bool
 |[]=>true
 | .int .i64 a::v::r=>decide (0<=a)&&decide (a<256)&&Q3b v&&Qeg r
 |_=>false
def Qjd:V->Option (List V×Nat)
 | .nS=>some ([],0)
 | .iS cs n _=>if Nat.beq cs.length (n*2)&&Nat.ble n 4096&&Qeg cs then some (cs,n) else none
 |_=>none
def Qlb:V->Option (List V)
 | .iS rv n _=>if Nat.beq n 256&&Nat.beq rv.length 256&&rv.all Q3b then some rv else none
 |_=>none
def newRow(fl:Bool)(v:V):V:= .iS (Qry v) 256 fl
def Qfd:List V->List V
 |a::v::r=>a::newRow false v::Qfd r
 |l=>l
def Qur(rv cs:List V)(n:Nat):V:= .agg [.iS (rv.map (newRow true)) 256 false,if n=0 then .nS else .iS (Qfd cs) n false]
def Q3d:List V->Option V
 |[.agg [bv,wv]]=>(match Qlb bv,Qjd wv with
  |some rv,some (cs,n)=>some (Qur rv cs n)
  |_,_=>none)
 |_=>none
def Qgj:List V->List V->List V
 | .int _ a::v::r,rv=>Qgj r (rv.set a.toNat v)
 |_,rv=>rv
def isFn:V->Bool
 | .func (.func _) [] []=>true
 | .func (.func _) [] [.iptr _ _]=>true
 | .func (.func _) [] [.bad]=>true
 |_=>false
def isAll(all:FuncId):V->Bool
 | .func (.func f) [] []=>Nat.beq f all
 |_=>false
def Q3w(all:FuncId):List V->Option V
 |[.agg [bv,wv],sv]=>if isFn sv then(match Qlb bv,Qjd wv with
  |some rv,some (cs,n)=>if isAll all sv||Nat.beq n 0 then some (Qur (Qgj cs rv) [] 0) else none
  |_,_=>none) else none
 |_=>none
def Qv9:List V->Option V
 |[.agg [.nS,.nS]]=>some (.int .i64 8)
 |[.agg [bv,wv]]=>(match Qlb bv,Qjd wv with
  |some _,some _=>some (.int .i64 0)
  |_,_=>none)
 |_=>none
def Zcd:List V:=List.replicate 256 (.int .u8 0)
def kNew:List V->Option V
 |[]=>some (.agg [.iS (List.replicate 256 (.iS Zcd 256 true)) 256 false,.nS])
 |_=>none
structure W4 where
 a:Nat
 b:Nat
 c:Nat
 d:Nat
def Qdf(x y:Nat):Nat:=Nat.mod (Nat.add x y) (nat_lit 4294967296)
def Qho(x k:Nat):Nat:=Nat.lor (Nat.mod (Nat.shiftLeft x k) (nat_lit 4294967296)) (Nat.shiftRight x (Nat.sub (nat_lit 32) k))
def Qi3{α:Type}(x:Nat)(k:Nat->α):α:=Nat.rec (motive:=fun _=>α) (k (nat_lit 0)) (fun m _=>k (Nat.succ m)) x
def Qg1(far near:Nat)(x:W4):W4:=
 Qi3 (Qdf x.a x.b) fun a=>Qi3 (Qho (Nat.xor x.d a) far) fun d=>Qi3 (Qdf x.c d) fun c=>Qi3 (Qho (Nat.xor x.b c) near) fun b=>⟨a,b,c,d⟩
def Qh4(x:W4):W4:=Qg1 (nat_lit 9) (nat_lit 6) (Qg1 (nat_lit 15) (nat_lit 11) x)
def Bg(n:Nat):W4->W4:=Nat.rec (motive:=fun _=>W4->W4) (fun x=>x) (fun _ ih x=>ih (Qh4 x)) n
def Q0r(v:V):Nat:=vInt v (fun _ m=>Int.rec (motive:=fun _=>Nat) (fun a=>a) (fun _=>nat_lit 0) m) (nat_lit 0)
def num4(w x y z:V):Nat:=Nat.add (Q0r w) (Nat.mul (nat_lit 256) (Nat.add (Q0r x) (Nat.mul (nat_lit 256) (Nat.add (Q0r y) (Nat.mul (nat_lit 256) (Q0r z))))))
def Qlg(n:Nat):List V->W4->W4:=Nat.rec (motive:=fun _=>List V->W4->W4) (fun _ x=>x) (fun _ ih l x=>match l with
 |a::b::c::d::e::f::g::h::r=>Qi3 (Nat.xor x.a (num4 a b c d)) fun p=>Qi3 (Nat.xor x.c (num4 e f g h)) fun q=>ih r (Bg (nat_lit 4) ⟨p,x.b,q,x.d⟩)
 |_=>x) n
def pad8(l:List V):List V:=l++ .int .u8 1::List.replicate ((8-(l.length+1)%8)%8) (.int .u8 0)
def Qx4(l:List V):W4:=match Qlg (l.length+1) (pad8 l) ⟨1,2,3,4⟩ with
 |x=>Bg (nat_lit 8) ⟨x.a,Nat.xor x.b l.length,x.c,x.d⟩
def Qoc:V->Bool
 | .int .u8 (.ofNat n)=>Nat.blt n 256
 |_=>false
def Qqw:V->Option (List V)
 | .nS=>some []
 | .iS c n _=>if Nat.beq c.length n&&(Nat.ble n 1048576&&c.all Qoc) then some c else none
 |_=>none
def kSum:List V->Option V
 |[x]=>(match Qqw x with
  |some l=>some (.int .u32 (Int.ofNat (Qx4 l).a))
  |none=>none)
 |_=>none
def maxV(l:List V):Nat->Nat:=List.rec (motive:=fun _=>Nat->Nat) (fun m=>m) (fun v _ ih m=>Bool.rec (motive:=fun _=>Nat) (ih m) (ih (Q0r v)) (Nat.ble (Nat.succ m) (Q0r v))) l
def kMax:List V->Option V
 |[x]=>(match Qqw x with
  |some (v::l)=>some (.int .u8 (Int.ofNat (maxV l (Q0r v))))
  |_=>none)
 |_=>none
end Go.AM.BM
namespace Go.AM
structure Yb where
 at_:Int
 birth:Int
 iv:Int
 tag:Int
 sum:Int
 deriving DecidableEq
def Yb.cells(p:Yb):List V:=[.int .i64 p.at_,.int .u32 p.birth,.int .u32 p.iv,.int .u32 p.tag,.int .u32 p.sum]
def Bf:Yb:=⟨0,0,0,0,0⟩
def Q2g(p:Yb):Bool:=decide (p.at_<12)||(decide (p.at_>=256)||(decide (p.birth<1)||decide (p.birth>16777215)))
def Qe5(p:Yb):Bool:=decide (p=Bf)||!Q2g p
def okE(b:Bool):Int:=if b then 0 else 8
def Qdr(a b:Int):Int:=if decide (a<b) then-1 else if decide (a>b) then 1 else 0
def Qhd:List Int->Int
 |[]=>0
 |x::r=>if x !=0 then x else Qhd r
def Qnd(v:V)(n:Nat):Prop:=∃cells,Qw 1 v cells n
structure Zy where
 id:Int
 kind:Int
 owner:Int
 prev:Int
 txg:Int
 guid:Int
 key:Int
 root:Yb
 dead:List Yb
 deriving DecidableEq
def Xi(l:List Yb):List V:=l.flatMap Yb.cells
def J3(l:Zy)(dv:V):List V:= .int .i64 l.id:: .int .u8 l.kind:: .int .i64 l.owner:: .int .i64 l.prev:: .int .u32 l.txg:: .int .u32 l.guid:: .int .i64 l.key:: .int .i64 l.root.at_:: .int .u32 l.root.birth:: .int .u32 l.root.iv:: .int .u32 l.root.tag:: .int .u32 l.root.sum::[dv]
def Qa5(v:V)(l:List Yb):Prop:=Qw 5 v (Xi l) l.length
def LinesC:List V->List Zy->Prop
 |cs,[]=>cs=[]
 |cs,l::ls=>∃dv d,cs=J3 l dv++d/\Qa5 dv l.dead/\LinesC d ls
def Qid(v:V)(ls:List Zy):Prop:=∃cs,LinesC cs ls/\Qw 13 v cs ls.length
def Qjv(c:Nat->Int):Nat->Nat->Nat->Nat
 |0,i,_=>i
 |n+1,i,j=>if i<j then(if decide (c ((i+j)/2)<0) then Qjv c n ((i+j)/2+1) j else Qjv c n i ((i+j)/2)) else i
def bs(c:Nat->Int)(n:Nat):Nat:=Qjv c n 0 n
def Qv1(c:Nat->Int)(n:Nat):Bool:=decide (bs c n<n)&&decide (c (bs c n)=0)
def B5(ls:List Zy)(id:Int)(i:Nat):Int:=match ls[i]? with
 |some l=>Qdr l.id id
 |none=>0
def Qc3(ls:List Zy)(id:Int):Option Nat:=if Qv1 (B5 ls id) ls.length then some (bs (B5 ls id) ls.length) else none
def Xq(ls:List Zy)(id:Int):Option Zy:=match Qc3 ls id with
 |some i=>ls[i]?
 |none=>none
def Qtm(ls:List Zy)(x:Zy):Bool:=match Xq ls x.owner with
 |none=>false
 |some o=>if(o.kind !=1)||((x.kind==1)&&(x.owner !=x.id)) then false else if x.prev==0 then true else match Xq ls x.prev with
  |none=>false
  |some p=>if(p.kind !=2)||(p.key !=x.key) then false else decide (p.txg<x.txg)||((p.txg==x.txg)&&(x.kind==1))
def Qhj:Option Yb->List Yb->Bool
 |_,[]=>true
 |o,p::r=>if decide (p=Bf)||(!(Qe5 p)||(match o with|some q=>decide (Qdr q.at_ p.at_>=0)|none=>false)) then false else Qhj (some p) r
def Qmf(l:List Yb):Bool:=if decide ((l.length:Int)>240) then false else Qhj none l
def before{α:Type}(l:List α)(i:Nat):Option α:=match i with|0=>none|k+1=>l[k]?
def Qba:Option Zy->List Zy->Bool
 |_,[]=>true
 |o,x::r=>if decide (x.id<1)||(decide (x.id>255)||((match o with|some q=>decide (x.id<=q.id)|none=>false)||((x.kind !=1)&&(x.kind !=2)))) then false else Qba (some x) r
def Qga(all:List Zy)(x:Zy):Bool:=decide (x.txg>16777215)||(decide (x.key<0)||(decide (x.key>=8)||(!(Qe5 x.root)||(!(Qmf x.dead)|| !(Qtm all x)))))
def Qc9(all:List Zy):List Zy->Bool
 |[]=>true
 |x::r=>if Qga all x then false else Qc9 all r
def X7(ls:List Zy):Bool:=if decide ((ls.length:Int)>16) then false else if Qba none ls then Qc9 ls ls else false
structure Qp where
 set:Int
 obj:Int
 index:Int
 kind:Int
 links:Int
 size:Int
 n:Nat
 laid:Yb
 deriving DecidableEq
def Ql(c:Qp)(dv:V):List V:= .int .i64 c.set:: .int .i64 c.obj:: .int .i64 c.index:: .int .u8 c.kind:: .int .i64 c.links:: .int .i64 c.size::dv:: .int .i64 c.laid.at_:: .int .u32 c.laid.birth:: .int .u32 c.laid.iv:: .int .u32 c.laid.tag::[.int .u32 c.laid.sum]
def J8(c:Qp):Bool:=
 if decide (c.obj<0)||(decide (c.obj>=16)||(decide (c.index<0)||decide (c.index>15))) then false
 else if c.index==15 then
  (decide (c.kind<=7)&&(decide ((if c.size<c.links then c.size else c.links)>=0)&&(decide (c.links<=255)&&decide (c.size<=3840))))&&(((c.n:Int)==0)&&(decide (c.laid=Bf)&&(decide (c.kind>0)||((c.kind==0)&&((c.links==0)&&(c.size==0))))))
 else((c.kind==0)&&((c.links==0)&&(c.size==0)))&&((((c.n:Int)==0)||((c.n:Int)==256))&&Qe5 c.laid)
def Qet(a b:Qp):Int:=Qhd [Qdr a.set b.set,Qdr a.obj b.obj,Qdr a.index b.index]
def Be(many:Int)(k:List UInt8):Bool:=decide ((k.length:Int)>0)&&(((k.length:Int) !=many)||((many==24)&&decide (k=List.replicate 24 0)))
def Qbh(l:List (List UInt8))(many:Int):Bool:=((l.length:Int)==8)&& !(l.any (Be many))
def Kw:List V->List (List UInt8)->Prop
 |cs,[]=>cs=[]
 |cs,x::r=>∃v d,cs=v::d/\Qe v x/\Kw d r
def Z2(v:V)(l:List (List UInt8)):Prop:=∃cs,Kw cs l/\Qw 1 v cs l.length
def Q8{α:Type}(p:α->Bool):Nat->List α->Int
 |_,[]=> -1
 |i,x::r=>if p x then(i:Int) else Q8 p (i+1) r
def Yx(l:List UInt8):Bool:=l.length==256&&l.all (fun b=>b<=2)&&((l.take 12).count 1==12)
def Qev(space:List UInt8)(i:Nat):Int:=(((space.getD i 0).toNat:Nat):Int)
def Bi(d:Int)(tab:Bool)(epoch count:Int):Bool:= !((d !=0)||(!tab||(decide (epoch<1)||(decide (epoch>65535)||decide (count>65535)))))
def Yr(nid ng:Int)(x:Zy):Bool:=decide (x.id>=nid)||decide (x.guid>=ng)
structure Kx where
 epoch:Int
 count:Int
 gen:Int
 root:Yb
 own:List Int
 lines:List Zy
 keys:List (List UInt8)
 loaded:List (List UInt8)
 changes:List Qp
 logged:Int
 nextId:Int
 nextGuid:Int
def ChangesC:List V->List Qp->Prop
 |cs,[]=>cs=[]
 |cs,c::r=>∃dv d,cs=Ql c dv++d/\Qnd dv c.n/\ChangesC d r
def Qt2(v:V)(ls:List Qp):Prop:=∃cs,ChangesC cs ls/\Qw 12 v cs ls.length
def Qf(bv wv sv mv lv kv ov cv:V)(p:Kx):List V:=bv::wv::sv:: .int .u32 p.epoch:: .int .u32 p.count:: .int .u32 p.gen:: .int .i64 p.root.at_:: .int .u32 p.root.birth:: .int .u32 p.root.iv:: .int .u32 p.root.tag:: .int .u32 p.root.sum::mv::lv::kv::ov::cv:: .int .i64 p.logged:: .int .i64 p.nextId::[.int .u32 p.nextGuid]
def Qdx(sp:Nat->Int):Option Int->List Int->Bool
 |_,[]=>true
 |o,a::r=>if decide (a<12)||(decide (a>=256)||((match o with|some q=>decide (a<=q)|none=>false)||(sp a.toNat !=1))) then false else Qdx sp (some a) r
def Qgc(lines:List Zy):Option Qp->List Qp->Bool
 |_,[]=>true
 |o,c::r=>if(match Xq lines c.set with|none=>true|some l=>l.kind !=1)||(!(J8 c)||(match o with|some q=>decide (Qet q c>=0)|none=>false)) then false else Qgc lines (some c) r
def Qko(d:Int)(tab:Bool)(p:Kx):Bool:=(!(Bi d tab p.epoch p.count))||(decide (p.gen>16777215)||(!(Qe5 p.root)||(decide (p.root=Bf) !=(p.gen==0))))
def Qgx(p:Kx):Bool:=(!(X7 p.lines))||((!(Qbh p.keys 24))||((!(Qbh p.loaded 16))||(decide (p.logged<0)||(decide (p.logged>8)||(decide (p.nextId<1)||decide (p.nextId>256))))))
def Qah(d:Int)(tab:Bool)(sp:Nat->Int)(p:Kx):Bool:=if Qko d tab p then false else if Qdx sp none p.own then(if Qgx p then false else if Qgc p.lines none p.changes then !(p.lines.any (Yr p.nextId p.nextGuid)) else false) else false
theorem Q4{esz n:Nat}{v:V}{cells:List V}(h:Qw esz v cells n):v.scalar=true:=by obtain⟨_,⟨rfl,_⟩|⟨f,rfl⟩⟩:=h<;>rfl
theorem Qks{g:Get}{l:Zy}{dv:V}(hd:Qa5 dv l.dead):frz g depth (.agg (J3 l dv))=some (.agg (J3 l dv)):=by
 have:=hd.frz (g:=g) 10;show Option.map V.agg (Q5 (frz g 11) (J3 l dv))=_;have e:Q5 (frz g 11) (J3 l dv)=some (J3 l dv):=by
  simp only[J3]
  repeat' (first|refine Qa rfl ?_|refine Qa this ?_|rfl)
 rw[e];rfl
theorem LinesC.len:∀{ls:List Zy} {cs:List V},LinesC cs ls->cs.length=ls.length*13
 |[],cs,h=>by
  have:cs=[]:=h;subst this;rfl
 |x::rs,cs,h=>by
  obtain⟨dv,d,rfl,h1,h2⟩:=h;have:=h2.len;simp only[Zom,Zp9,Zpt,J3];omega
theorem LinesC.at_:∀{ls:List Zy} {cs:List V} {i:Nat} {l:Zy},LinesC cs ls->ls[i]?=some l->∃dv,(cs.drop (i*13)).take 13=J3 l dv/\Qa5 dv l.dead
 |[],cs,i,r,h,hi=>by simp at hi
 |x::rs,cs,0,r,h,hi=>by
  obtain⟨dv,d,rfl,h1,h2⟩:=h;simp only[List.getElem?_cons_zero,Zrd] at hi;subst hi;exact⟨dv,by rfl,h1⟩
 |x::rs,cs,i+1,r,h,hi=>by
  obtain⟨dv,d,rfl,h1,h2⟩:=h;simp only[List.getElem?_cons_succ] at hi;rw[show(i+1)*13=(J3 x dv).length+i*13 by simp[J3];omega,<-Zol,List.drop_left];exact LinesC.at_ h2 hi
theorem Qil(c:Nat->Int):∀(n m i j:Nat),j-i<=n->j-i<=m->Qjv c n i j=Qjv c m i j
 |0,0,i,j,h,h2=>rfl
 |0,m+1,i,j,h,h2=>by simp only[Qjv];rw[if_neg (by omega)]
 |n+1,0,i,j,h,h2=>by simp only[Qjv];rw[if_neg (by omega)]
 |n+1,m+1,i,j,h,h2=>by
  simp only[Qjv];by_cases h1:i<j
  . rw[if_pos h1,if_pos h1,Qil c n m _ _ (by omega) (by omega),Qil c n m i _ (by omega) (by omega)]
  . rw[if_neg h1,if_neg h1]
theorem bsGo_t{c:Nat->Int}{i j:Nat}(h:i<j)(h2:decide (c ((i+j)/2)<0)=true):Qjv c (j-i) i j=Qjv c (j-((i+j)/2+1)) ((i+j)/2+1) j:=by obtain⟨m,hm⟩:∃m,j-i=m+1:=⟨j-i-1,by omega⟩;rw[hm];simp only[Qjv];rw[if_pos h,if_pos h2];exact Qil c _ _ _ _ (by omega) (by omega)
theorem bsGo_f{c:Nat->Int}{i j:Nat}(h:i<j)(h2:decide (c ((i+j)/2)<0)=false):Qjv c (j-i) i j=Qjv c ((i+j)/2-i) i ((i+j)/2):=by obtain⟨m,hm⟩:∃m,j-i=m+1:=⟨j-i-1,by omega⟩;rw[hm];simp only[Qjv];rw[if_pos h,if_neg (by simp only[h2];decide)];exact Qil c _ _ _ _ (by omega) (by omega)
theorem shr_u1(n:Nat):Qep .shr .u64 (n:Int) 1=some (.int .u64 ((n/2:Nat):Int)):=by
 have e:min (1:Int).toNat (IntKind.u64).bits=1:=rfl;have e2:(n:Int).fdiv (2^1)=((n/2:Nat):Int):=by rw[Int.fdiv_eq_ediv_of_nonneg _ (by decide)];omega
 simp only[Qep,e,e2];rw[if_neg (by omega)]
theorem Ql3{ls:List Zy}{id:Int}{i:Nat}(h:Qc3 ls id=some i):i<ls.length:=by
 unfold Qc3 at h;split at h
 . rename_i hb;cases h;simp only[Qv1,Zok] at hb;exact of_decide_eq_true hb.1
 . cases h
theorem LinesC.cells{ls:List Zy}{cs:List V}{i:Nat}(h:LinesC cs ls)(hi:i<ls.length):
 cs[i*13]?=some (.int .i64 ls[i].id)/\cs[i*13+1]?=some (.int .u8 ls[i].kind)/\cs[i*13+4]?=some (.int .u32 ls[i].txg)/\cs[i*13+6]?=some (.int .i64 ls[i].key):=by
 obtain⟨dv,h1,h2⟩:=h.at_ (Zn1 hi);have key:∀k,k<13->cs[i*13+k]?=(J3 ls[i] dv)[k]?:=fun k hk=>by rw[<-h1,Zoe,if_pos hk,Zpy]
 exact⟨key 0 (by decide),key 1 (by decide),key 4 (by decide),key 6 (by decide)⟩
theorem Qto(l:List Yb):(Xi l).length=l.length*5:=by
 induction l with
 |nil=>rfl
 |cons x r ih=>
  have e:Xi (x::r)=x.cells++Xi r:=rfl;rw[e,Zom,ih,Zp9];have:x.cells.length=5:=rfl;omega
theorem Qwq:∀(l:List Yb) (i:Nat) (h:i<l.length),((Xi l).drop (i*5)).take 5=l[i].cells
 |x::r,0,h=>by rfl
 |x::r,i+1,h=>by
  have e:Xi (x::r)=x.cells++Xi r:=rfl;have e2:(i+1)*5=x.cells.length+i*5:=by have:x.cells.length=5:=rfl;omega
  rw[e,e2,<-Zol,List.drop_left];exact Qwq r i (by simpa using h)
theorem Xo(b:Bool):(okE b !=0)=!b:=by cases b<;>rfl
theorem Q8i(b:Bool):(okE b==0)=b:=by cases b<;>rfl
theorem Qgk{g:Get}{c:Qp}{dv:V}(hd:Qnd dv c.n):frz g depth (.agg (Ql c dv))=some (.agg (Ql c dv)):=by
 obtain⟨cells,hd⟩:=hd;have:=Qw.frz (g:=g) hd 10;show Option.map V.agg (Q5 (frz g 11) (Ql c dv))=_;have e:Q5 (frz g 11) (Ql c dv)=some (Ql c dv):=by
  simp only[Ql]
  repeat' (first|refine Qa rfl ?_|refine Qa this ?_|rfl)
 rw[e];rfl
theorem Kw.len:∀{l:List (List UInt8)} {cs:List V},Kw cs l->cs.length=l.length
 |[],cs,h=>by
  have:cs=[]:=h;subst this;rfl
 |x::r,cs,h=>by
  obtain⟨v,d,rfl,h1,h2⟩:=h;simp only[Zp9,h2.len]
theorem Kw.at_:∀{l:List (List UInt8)} {cs:List V} {i:Nat},Kw cs l->(h:i<l.length)->∃v,cs[i]?=some v/\Qe v l[i]
 |x::r,cs,0,h,hi=>by
  obtain⟨v,d,rfl,h1,h2⟩:=h;exact⟨v,rfl,h1⟩
 |x::r,cs,i+1,h,hi=>by
  obtain⟨v,d,rfl,h1,h2⟩:=h;obtain⟨w,h3,h4⟩:=h2.at_ (i:=i) (by simpa using hi);exact⟨w,by simpa using h3,h4⟩
theorem Qm2{α:Type}(p:α->Bool):∀(l:List α) (i:Nat),(Q8 p i l>=0)↔l.any p=true
 |[],i=>by simp[Q8]
 |x::r,i=>by
  have e:Q8 p i (x::r)=if p x=true then(i:Int) else Q8 p (i+1) r:=rfl
  by_cases h:p x=true
  . rw[e,if_pos h,List.any_cons,h];simp
  . have h' :p x=false:=by simpa using h
    rw[e,if_neg h,List.any_cons,h',Zpa];exact Qm2 p r (i+1)
theorem Qhz{α:Type}(p:α->Bool)(l:List α)(i:Nat):decide (Q8 p i l>=0)=l.any p:=by rw[Bool.eq_iff_iff,decide_eq_true_eq];exact Qm2 p l i
theorem le2(b:UInt8):((b.toNat:Int)<=2)↔(b<=2):=by rw[UInt8.le_iff_toNat_le];simp;omega
theorem okE_if(b:Bool):(if b=true then(0:Int) else 8)=okE b:=rfl
theorem Q0b{F:AM.Frame}(hw:Zg (fun f _=>Nat.ble 1 f) F=true){n:Nat}(hn:1<=n):Zg (fun f _=>Nat.ble n f) F=true:=Qb7 (Qa0 hn) F hw
theorem pop3{F G:AM.Frame}{v:V}(hv:v.refs (fun f _=>Nat.ble 3 f)=false)(hw:Zg (fun f _=>Nat.ble 1 f) F=true):Yk 3 v [F,[],[],G]=[F,[],[]]:=by refine Zf (H:=[F,[],[]]) (G:=[G]) hv ?_;show(Zg _ F&&true)=true;rw[Q0b hw (by simp)];rfl
theorem pop2{F G:AM.Frame}{v:V}(hv:v.refs (fun f _=>Nat.ble 2 f)=false)(hw:Zg (fun f _=>Nat.ble 1 f) F=true):Yk 2 v [F,[],G]=[F,[]]:=by refine Zf (H:=[F,[]]) (G:=[G]) hv ?_;show(Zg _ F&&true)=true;rw[Q0b hw (by simp)];rfl
theorem pop1{F G:AM.Frame}{v:V}(hv:v.refs (fun f _=>Nat.ble 1 f)=false)(hw:Zg (fun f _=>Nat.ble 1 f) F=true):Yk 1 v [F,G]=[F]:=by refine Zf (H:=[F]) (G:=[G]) hv ?_;show(Zg _ F&&true)=true;rw[Q0b hw (by simp)];rfl
theorem ChangesC.len:∀{ls:List Qp} {cs:List V},ChangesC cs ls->cs.length=ls.length*12
 |[],cs,h=>by
  have:cs=[]:=h;subst this;rfl
 |x::rs,cs,h=>by
  obtain⟨dv,d,rfl,h1,h2⟩:=h;have:=h2.len;simp only[Zom,Zp9,Zpt,Ql];omega
theorem ChangesC.at_:∀{ls:List Qp} {cs:List V} {i:Nat} {l:Qp},ChangesC cs ls->ls[i]?=some l->∃dv,(cs.drop (i*12)).take 12=Ql l dv/\Qnd dv l.n
 |[],cs,i,r,h,hi=>by simp at hi
 |x::rs,cs,0,r,h,hi=>by
  obtain⟨dv,d,rfl,h1,h2⟩:=h;simp only[List.getElem?_cons_zero,Zrd] at hi;subst hi;exact⟨dv,by rfl,h1⟩
 |x::rs,cs,i+1,r,h,hi=>by
  obtain⟨dv,d,rfl,h1,h2⟩:=h;simp only[List.getElem?_cons_succ] at hi;rw[show(i+1)*12=(Ql x dv).length+i*12 by simp[Ql];omega,<-Zol,List.drop_left];exact ChangesC.at_ h2 hi
def Qbp(L:List (Int×V))(c:List V)(b:Nat):List V:=match L[b]? with
 |some (k,v)=>c.set k.toNat v
 |none=>c
def Jk(L:List (Int×V))(seen:List Nat)(rv:List V):List V:=seen.foldl (Qbp L) rv
theorem Qxg(L:List (Int×V))(seen:List Nat)(b:Nat)(rv:List V)(k:Int)(v:V)(h:L[b]?=some (k,v)):Jk L (seen++[b]) rv=(Jk L seen rv).set k.toNat v:=by simp only[Jk,List.foldl_append,Zpq,List.foldl_nil,Qbp,h]
theorem B7(L:List (Int×V)):∀(seen:List Nat) (rv:List V),(Jk L seen rv).length=rv.length
 |[],rv=>rfl
 |b::seen,rv=>by
  show(Jk L seen (Qbp L rv b)).length=_;rw[B7 L seen];unfold Qbp;split
  . rw[Zql]
  . rfl
theorem Qcd(L:List (Int×V))(i:Nat):∀(seen:List Nat) (rv:List V),(∀b∈seen,∀k v,L[b]?=some (k,v)->k.toNat≠i)->(Jk L seen rv)[i]?=rv[i]?
 |[],rv,_=>rfl
 |b::seen,rv,h=>by
  show(Jk L seen (Qbp L rv b))[i]?=_;rw[Qcd L i seen _ (fun c hc=>h c (Zpk _ hc))];unfold Qbp;split
  . rename_i k v hk;rw[Zqd,if_neg (h b (by simp) k v hk)]
  . rfl
theorem Qfu(L:List (Int×V))(hd:∀(b c:Nat) (k:Int) (v w:V),L[b]?=some (k,v)->L[c]?=some (k,w)->b=c)(h0:∀(b:Nat) (k:Int) (v:V),L[b]?=some (k,v)->0<=k){b:Nat}{k:Int}{v:V}(hL:L[b]?=some (k,v)):
 ∀(seen:List Nat) (rv:List V),b∈seen->k.toNat<rv.length->(Jk L seen rv)[k.toNat]?=some v
 |[],_,h,_=>by cases h
 |c::seen,rv,h,hi=>by
  show(Jk L seen (Qbp L rv c))[k.toNat]?=_;by_cases hs:b∈seen
  . refine Qfu L hd h0 hL seen _ hs ?_;unfold Qbp;split
    . rw[Zql];exact hi
    . exact hi
  . have hc:b=c:=by
     rcases Zph.1 h with h|h
     . exact h
     . exact absurd h hs
    subst hc;rw[Qcd L]
    . simp only[Qbp,hL];rw[Zqd,if_pos rfl,if_pos hi]
    . intro c hcs k' v' hk' e;have:k' =k:=by have:=h0 _ _ _ hL;have:=h0 _ _ _ hk';omega
      subst this;exact hs (hd _ _ _ _ _ hL hk' ▸hcs)
theorem Qz8(L:List (Int×V))(hd:∀(b c:Nat) (k:Int) (v w:V),L[b]?=some (k,v)->L[c]?=some (k,w)->b=c)(h0:∀(b:Nat) (k:Int) (v:V),L[b]?=some (k,v)->0<=k)(seen:List Nat)(hall:∀b,b<L.length->b∈seen)(rv:List V)(hk:∀(b:Nat) (k:Int) (v:V),L[b]?=some (k,v)->k.toNat<rv.length):
 Jk L seen rv=Jk L (List.range L.length) rv:=by
 apply Zpi;intro i;by_cases h:∃(b:Nat) (k:Int) (v:V),L[b]?=some (k,v)/\k.toNat=i
 . obtain⟨b,k,v,hL,rfl⟩:=h;have hb:b<L.length:=(Zoq.1 hL).1;rw[Qfu L hd h0 hL seen rv (hall b hb) (hk _ _ _ hL),Qfu L hd h0 hL _ rv (Zpz.2 hb) (hk _ _ _ hL)]
 . have hm:∀s:List Nat,∀b∈s,∀k v,L[b]?=some (k,v)->k.toNat≠i:=fun s b _ k v hL e=>h ⟨b,k,v,hL,e⟩;rw[Qcd L i _ _ (hm _),Qcd L i _ _ (hm _)]
theorem Qtx(seen:List Nat):∀(es:List (V×V)) (i:Nat) (x:(V×V)×Nat),x∈Ko seen es (List.range' i es.length)->i<=x.2/\es[x.2-i]?=some x.1/\x.2∉seen
 |[],_,x,h=>by cases h
 |e::es,i,x,h=>by
  simp only[Zp9,Zp2,Ko] at h;have next:x∈Ko seen es (List.range' (i+1) es.length)->i<=x.2/\(e::es)[x.2-i]?=some x.1/\x.2∉seen:=by
   intro h;obtain⟨h1,h2,h3⟩:=Qtx seen es (i+1) x h;refine⟨by omega,?_,h3⟩;have e:x.2-i=(x.2-(i+1))+1:=by omega
   rw[e];exact h2
  split at h
  . exact next h
  . rename_i hc;rcases Zph.1 h with rfl|h
    . exact⟨Zn6 _,by simp,by simpa using hc⟩
    . exact next h
theorem Qte(seen:List Nat):∀(es:List (V×V)) (i:Nat),Ko seen es (List.range' i es.length)=[]->∀b,i<=b->b<i+es.length->b∈seen
 |[],_,_,b,h1,h2=>by simp at h2;omega
 |e::es,i,h,b,h1,h2=>by
  simp only[Zp9,Zp2,Ko] at h h2;split at h
  . rename_i hc;by_cases e:b=i
    . subst e;simpa using hc
    . exact Qte seen es (i+1) h b (by omega) (by omega)
  . cases h
theorem Qzz(seen:List Nat)(c:Nat):∀(es:List (V×V)) (bs:List Nat),(Ko (seen++[c]) es bs).length<=(Ko seen es bs).length
 |[],bs=>by cases bs<;>simp[Ko]
 |e::es,[]=>by simp[Ko]
 |e::es,b::bs=>by
  have:=Qzz seen c es bs;simp only[Ko];split<;>split
  . exact this
  . simp only[Zp9];omega
  . rename_i h1 h2;simp at h1 h2;exact absurd h2 h1.1
  . simp only[Zp9];omega
theorem Qjq(seen:List Nat)(x:(V×V)×Nat):∀(es:List (V×V)) (bs:List Nat),x∈Ko seen es bs->(Ko (seen++[x.2]) es bs).length<(Ko seen es bs).length
 |[],bs,h=>by cases bs<;>simp[Ko] at h
 |e::es,[],h=>by simp[Ko] at h
 |e::es,b::bs,h=>by
  have le:=Qzz seen x.2 es bs;simp only[Ko] at h⊢;by_cases hb:seen.contains b=true
  . have hb2:(seen++[x.2]).contains b=true:=by simp at hb⊢;exact .inl hb
    simp only[hb,hb2,if_true] at h⊢;exact Qjq seen x es bs h
  . simp only[hb,Zn5,if_false] at h⊢;rcases Zph.1 h with rfl|h
    . have:(seen++[b]).contains b=true:=by simp
      simp only[this,if_true,Zp9];simp only at le;omega
    . have:=Qjq seen x es bs h;split<;>simp only[Zp9]<;>omega
theorem Qq0(b:Nat):∀(es:List (V×V)) (i:Nat),i<=b->Qct b es (List.range' i es.length)=es[b-i]?
 |[],i,h=>by simp[Qct]
 |e::es,i,h=>by
  simp only[Zp9,Zp2,Qct];split
  . rename_i q;subst q;simp
  . have q:b-i=(b-(i+1))+1:=by omega
    rw[q,Qq0 b es (i+1) (by omega)];rfl
def Qcl:List V->List (Int×List UInt8)->Prop
 |cs,[]=>cs=[]
 |cs,w::r=>∃v d,cs= .int .i64 w.1::v::d/\Qe v w.2/\Qcl d r
def Jh(v:V)(l:List (Int×List UInt8)):Prop:=∃cs,Qcl cs l/\Qw 2 v cs l.length
theorem Qcl.len:∀{l:List (Int×List UInt8)} {cs:List V},Qcl cs l->cs.length=l.length*2
 |[],cs,h=>by
  have:cs=[]:=h;subst this;rfl
 |x::r,cs,h=>by
  obtain⟨v,d,rfl,h1,h2⟩:=h;simp only[Zp9,h2.len];omega
theorem Qcl.at_:∀{l:List (Int×List UInt8)} {cs:List V} {i:Nat},Qcl cs l->(h:i<l.length)->cs[2*i]?=some (.int .i64 l[i].1)/\∃v,cs[2*i+1]?=some v/\Qe v l[i].2
 |x::r,cs,0,h,hi=>by
  obtain⟨v,d,rfl,h1,h2⟩:=h;exact⟨rfl,v,rfl,h1⟩
 |x::r,cs,i+1,h,hi=>by
  obtain⟨v,d,rfl,h1,h2⟩:=h;obtain⟨h3,w,h4,h5⟩:=h2.at_ (i:=i) (by simpa using hi);have e:2*(i+1)=2*i+1+1:=by omega
  refine⟨?_,w,?_,?_⟩
  . rw[e];simpa using h3
  . rw[e];simpa using h4
  . simpa using h5
def Qdz(a:Int):Bool:=decide ((IntKind.u64).wrap a<256)
def Xy(b:List UInt8):Bool:=(b.length:Int)==256
def Qdd(w:Int×List UInt8):Bool:=Qdz w.1&&Xy w.2
def Jn(bl:List (List UInt8))(wl:List (Int×List UInt8)):Bool:=((((bl.length:Int)==256)&&decide ((wl.length:Int)<=4096))&&bl.all Xy)&&wl.all Qdd
def Qkz{α:Type}(b:Bool)(p:α->Bool)(l:List α)(i:Nat):Bool:=b&&(l.take i).all p
theorem Qth{α:Type}(b:Bool)(p:α->Bool)(l:List α):Qkz b p l 0=b:=by simp[Qkz]
theorem Qs0{α:Type}(b:Bool)(p:α->Bool)(l:List α)(i:Nat)(h:i<l.length):Qkz b p l (i+1)=(Qkz b p l i&&p l[i]):=by simp only[Qkz,Zqm h,Zqf,Zqn,List.all_nil,Zo9,Bool.and_assoc]
theorem Qyl{α:Type}(b:Bool)(p:α->Bool)(l:List α)(i:Nat)(h:l.length<=i):Qkz b p l i=(b&&l.all p):=by simp only[Qkz,Zpf h]
def Qo:List V->List Qp->List (List UInt8)->Prop
 |cs,[],[]=>cs=[]
 |cs,c::r,x::s=>∃dv d,cs=Ql c dv++d/\Qe dv x/\c.n=x.length/\Qo d r s
 |_,_,_=>False
theorem Qo.toC:∀{ls:List Qp} {ds:List (List UInt8)} {cs:List V},Qo cs ls ds->ChangesC cs ls
 |[],[],cs,h=>h
 |c::r,x::s,cs,h=>by
  obtain⟨dv,d,rfl,h1,h2,h3⟩:=h;exact⟨dv,d,rfl,⟨_,by rw[h2];exact h1⟩,h3.toC⟩
def Yb.Rng(p:Yb):Prop:=(0<=p.birth/\p.birth<4294967296)/\(0<=p.iv/\p.iv<4294967296)/\(0<=p.tag/\p.tag<4294967296)/\(0<=p.sum/\p.sum<4294967296)
structure Kc where
 blocks:List (List UInt8)
 waits:List (Int×List UInt8)
 space:List UInt8
 p:Kx
 datas:List (List UInt8)
abbrev Y4:Nat:=9223372036854775807
structure Kc.Fits(x:Kc):Prop where
 blocks:x.blocks.length<=Y4
 waits:x.waits.length<=Y4
 space:x.space.length<=Y4
 own:x.p.own.length<=Y4
 lines:x.p.lines.length<=Y4
 keys:x.p.keys.length<=Y4
 loaded:x.p.loaded.length<=Y4
 changes:x.p.changes.length<=Y4
 rows:∀k∈x.blocks,k.length<=Y4
 wdata:∀w∈x.waits,w.2.length<=Y4
 keyl:∀k∈x.p.keys,k.length<=Y4
 loadedl:∀k∈x.p.loaded,k.length<=Y4
 dead:∀l∈x.p.lines,l.dead.length<=Y4
 data:∀k∈x.datas,k.length<=Y4
 wat:∀w∈x.waits,-9223372036854775808<=w.1/\w.1<=9223372036854775807
 root:x.p.root.Rng
 roots:∀l∈x.p.lines,l.root.Rng
 laids:∀c∈x.p.changes,c.laid.Rng
 nums:(0<=x.p.count/\x.p.count<4294967296)/\0<=x.p.gen/\x.p.gen<4294967296
structure K5(bv wv sv mv lv kv ov cv:V)(x:Kc):Prop where
 blocks:Z2 bv x.blocks
 waits:Jh wv x.waits
 space:Qe sv x.space
 own:Xg mv x.p.own
 lines:Qid lv x.p.lines
 keys:Z2 kv x.p.keys
 loaded:Z2 ov x.p.loaded
 changes:∃cs,Qo cs x.p.changes x.datas/\Qw 12 cv cs x.p.changes.length
theorem Qjl(all:List Zy):∀{ls:List Zy},Qc9 all ls=true->∀l∈ls,Qga all l=false
 |[],_,_,h=>by cases h
 |x::r,h,l,hl=>by
  simp only[Qc9] at h;cases hb:Qga all x
  . rw[hb] at h;rcases Zph.1 hl with rfl|h2
    . exact hb
    . exact Qjl all h l h2
  . rw[hb] at h;cases h
theorem Qqk(ls:List Zy):∀{o:Option Qp} {cs:List Qp},Qgc ls o cs=true->∀c∈cs,J8 c=true
 |_,[],_,_,h=>by cases h
 |o,x::r,h,c,hc=>by
  have h2:Qgc ls (some x) r=true:=by
   unfold Qgc at h
   (repeat' split at h)<;>first|exact h|cases h
  rcases Zph.1 hc with rfl|h3
  . cases hm:J8 c with
    |true=>rfl
    |false=>
     unfold Qgc at h;rw[hm,Zp7,Bool.true_or,Bool.or_true] at h;cases h
  . exact Qqk ls h2 c h3
structure Q8t(x:Kc):Prop where
 store:Bi (okE (Jn x.blocks x.waits)) (Yx x.space) x.p.epoch x.p.count=true
 lines:x.p.lines.length<=16
 line:∀l∈x.p.lines,Qe5 l.root=true/\0<=l.key/\l.key<8
 keys:x.p.keys.length=8
 loaded:x.p.loaded.length=8
 key:∀k∈x.p.loaded,k.length=0\/k.length=16
 change:∀c∈x.p.changes,J8 c=true
theorem Qh3{x:Kc}(h:Qah (okE (Jn x.blocks x.waits)) (Yx x.space) (Qev x.space) x.p=true):Q8t x:=by
 unfold Qah at h;split at h
 . cases h
 rename_i h1;split at h
 case isFalse=>cases h
 split at h
 . cases h
 rename_i h3;split at h
 case isFalse=>cases h
 rename_i h4;simp only[Qko,Zpd,not_or,Zqo,Zqp] at h1;simp only[Qgx,Zpd,not_or,Zqo,Zqp] at h3;have hl:=h3.1;have hk:=h3.2.1;have ho:=h3.2.2.1;unfold X7 at hl;split at hl
 . cases hl
 rename_i l1;split at hl
 case isFalse=>cases hl
 simp only[Qbh,Zok,beq_iff_eq,Zoy,Zpp] at hk ho;refine⟨by simpa using h1.1,by simp at l1;omega,fun l hm=>?_,by omega,by omega,fun k hm=>?_,fun c hc=>Qqk _ h4 c hc⟩
 . have:=Qjl _ hl l hm;simp only[Qga,Zox,decide_eq_false_iff_not,Zqp] at this;exact⟨this.2.2.2.1,by omega,by omega⟩
 . have:=ho.2 k hm;simp only[Be,Zok,decide_eq_true_eq,Zpd,bne_iff_ne,not_and,not_or,ne_eq,Classical.not_not] at this;by_cases hz:k.length=0
   . exact .inl hz
   . have:=this (by omega);omega
theorem Qw8{c:Qp}(h:J8 c=true):c.n=0\/c.n=256:=by
 unfold J8 at h;split at h
 . cases h
 split at h
 . simp only[Zok,beq_iff_eq] at h;exact .inl (by omega)
 . simp only[Zok,Zpd,beq_iff_eq] at h;omega
theorem Qpq:∀{o:Option Zy} {ls:List Zy},Qba o ls=true->∀l∈ls,1<=l.id/\l.id<=255
 |_,[],_,_,h=>by cases h
 |o,x::r,h,l,hl=>by
  have h2:Qba (some x) r=true:=by
   unfold Qba at h
   (repeat' split at h)<;>first|exact h|cases h
  rcases Zph.1 hl with rfl|h3
  . by_cases a:l.id<1
    . unfold Qba at h;simp[a] at h
    . by_cases b:l.id>255
      . unfold Qba at h;simp[b] at h
      . omega
  . exact Qpq h2 l h3
theorem Qmt{a b:Int}(h:Qdr a b=0):a=b:=by
 unfold Qdr at h;split at h
 . cases h
 . split at h
   . cases h
   . rename_i h1 h2;simp only[decide_eq_true_eq] at h1 h2;omega
theorem Qrh{a b:Int}(h:Qdr a b<0):a<b:=by
 unfold Qdr at h;split at h
 . rename_i h1;simpa using h1
 . split at h<;>omega
theorem Q4h{ls:List Zy}{id:Int}{l:Zy}(h:Xq ls id=some l):l∈ls/\l.id=id:=by
 unfold Xq at h;split at h
 case h_2=>cases h
 rename_i i hi;refine⟨Zqq h,?_⟩;unfold Qc3 at hi;split at hi
 case isFalse=>cases hi
 rename_i hb;cases hi;simp only[Qv1,Zok,decide_eq_true_eq] at hb;have h2:=hb.2;generalize bs (B5 ls id) ls.length=i at*;unfold B5 at h2;rw[h] at h2;exact Qmt h2
def chK(c:Qp):Int:=c.set*256+c.obj*16+c.index
def inR(c:Qp):Prop:=1<=c.set/\c.set<=255/\0<=c.obj/\c.obj<16/\0<=c.index/\c.index<=15
theorem Qww{c:Qp}(h:J8 c=true):0<=c.obj/\c.obj<16/\0<=c.index/\c.index<=15:=by
 unfold J8 at h;split at h
 . cases h
 . rename_i hn;simp only[Zpd,decide_eq_true_eq,not_or] at hn;omega
theorem Q4x{q c:Qp}(h:Qet q c<0)(hq:inR q)(hc:inR c):chK q<chK c:=by
 unfold Qet Qhd at h;unfold chK;obtain⟨_,_,_,_,_,_⟩:=hq;obtain⟨_,_,_,_,_,_⟩:=hc;split at h
 . have:=Qrh h;omega
 . rename_i h1;have e1:=Qmt (a:=q.set) (b:=c.set) (by simpa using h1);unfold Qhd at h;split at h
   . have:=Qrh h;omega
   . rename_i h2;have e2:=Qmt (a:=q.obj) (b:=c.obj) (by simpa using h2);unfold Qhd at h;split at h
     . have:=Qrh h;omega
     . simp[Qhd] at h
theorem Qxw(ls:List Zy)(hid:∀l∈ls,1<=l.id/\l.id<=255):∀{o:Option Qp} {cs:List Qp},Qgc ls o cs=true->(∀q,o=some q->inR q)->(cs.length:Int)+(match o with|some q=>chK q+1|none=>0)<=65536
 |none,[],_,_=>by simp
 |some q,[],_,h=>by
  obtain⟨_,_,_,_,_,_⟩:=h q rfl;simp only[Zpt,chK];omega
 |o,c::r,h,ho=>by
  have h2:Qgc ls (some c) r=true:=by
   unfold Qgc at h
   (repeat' split at h)<;>first|exact h|cases h
  have hm:J8 c=true:=Qqk ls h c (by simp);have hs:∃l,Xq ls c.set=some l:=by
   cases hl:Xq ls c.set with
   |some l=>exact⟨l,rfl⟩
   |none=>
    unfold Qgc at h;rw[hl] at h;simp at h
  obtain⟨l,hl⟩:=hs;obtain⟨hl1,hl2⟩:=Q4h hl;have hr:=Qww hm;have hi:=hid l hl1;have hc:inR c:=⟨by omega,by omega,hr.1,hr.2.1,hr.2.2.1,hr.2.2.2⟩;have ih:=Qxw ls hid h2 (fun q e=>by cases e;exact hc);simp only at ih;cases o with
  |none=>
   simp only[Zp9];have:0<=chK c:=by unfold chK;obtain⟨_,_,_,_,_,_⟩:=hc;omega
   omega
  |some q=>
   have hlt:Qet q c<0:=by
    by_cases hge:Qet q c>=0
    . exfalso;unfold Qgc at h;simp only[hge,decide_true,Bool.or_true,if_true] at h;cases h
    . omega
   have:=Q4x hlt (ho q rfl) hc;simp only[Zp9];omega
theorem Bv{x:Kc}(h:Qah (okE (Jn x.blocks x.waits)) (Yx x.space) (Qev x.space) x.p=true):x.p.changes.length<=65536:=by
 unfold Qah at h;split at h
 . cases h
 split at h
 case isFalse=>cases h
 split at h
 . cases h
 rename_i h3;split at h
 case isFalse=>cases h
 rename_i h4;simp only[Qgx,Zpd,not_or,Zqo,Zqp] at h3;have hl:=h3.1;unfold X7 at hl;split at hl
 . cases hl
 split at hl
 case isFalse=>cases hl
 rename_i hA;have:=Qxw x.p.lines (Qpq hA) h4 (fun q e=>by cases e);simp only at this;omega
theorem Q65{x:Kc}(h:Qah (okE (Jn x.blocks x.waits)) (Yx x.space) (Qev x.space) x.p=true):∀l∈x.p.lines,l.dead.length<=240:=by
 unfold Qah at h;split at h
 . cases h
 split at h
 case isFalse=>cases h
 split at h
 . cases h
 rename_i h3;simp only[Qgx,Zpd,not_or,Zqo,Zqp] at h3;have hl:=h3.1;unfold X7 at hl;split at hl
 . cases hl
 split at hl
 case isFalse=>cases hl
 intro l hm;have:=Qjl _ hl l hm;simp only[Qga,Zox,decide_eq_false_iff_not,Zqp] at this;have hd:=this.2.2.2.2.1;unfold Qmf at hd;split at hd
 . cases hd
 . rename_i hn;simp at hn;omega
theorem Qo.at_:∀{ls:List Qp} {ds:List (List UInt8)} {cs:List V} {i:Nat},Qo cs ls ds->(h:i<ls.length)->∃dv k,(cs.drop (i*12)).take 12=Ql ls[i] dv/\Qe dv k/\ls[i].n=k.length
 |c::r,x::s,cs,0,h,_=>by
  obtain⟨dv,d,rfl,h1,h2,h3⟩:=h;exact⟨dv,x,by rfl,h1,h2⟩
 |c::r,x::s,cs,i+1,h,hi=>by
  obtain⟨dv,d,rfl,h1,h2,h3⟩:=h;obtain⟨dv',k,h4,h5,h6⟩:=h3.at_ (i:=i) (by simpa using hi);refine⟨dv',k,?_,by simpa using h5,by simpa using h6⟩;rw[show(i+1)*12=(Ql c dv).length+i*12 by simp[Ql];omega,<-Zol,List.drop_left];simpa using h4
 |c::r,[],cs,i,h,_=>h.elim
theorem Qa3{α:Type}(a d:List α)(o:Nat)(ys:List α):splice (a++d) (a.length+o) ys=a++splice d o ys:=by unfold splice;rw[List.take_append,Zpf (by omega),show a.length+o-a.length=o by omega,Zoj,List.drop_append,Zqe (by omega),show a.length+(o+ys.length)-a.length=o+ys.length by omega];simp
theorem Qem{α:Type}(a d:List α)(o:Nat)(ys:List α)(h:o+ys.length<=a.length):splice (a++d) o ys=splice a o ys++d:=by unfold splice;rw[List.take_append_of_le_length (by omega),List.drop_append_of_le_length (by omega)];simp
theorem LinesC.set:∀{ls:List Zy} {cs:List V} {i:Nat} {m:V},LinesC cs ls->(h:i<ls.length)->Qa5 m ls[i].dead->LinesC (splice cs (i*13+12) [m]) ls
 |[],cs,i,m,_,h,_=>absurd h (by simp)
 |l::ls,cs,0,m,⟨dv,d,e,h1,h2⟩,_,hm=>by
  subst e;exact⟨m,d,by rw[Qem _ _ _ _ (by simp[J3])];rfl,hm,h2⟩
 |l::ls,cs,i+1,m,⟨dv,d,e,h1,h2⟩,h,hm=>by
  subst e;refine⟨dv,splice d (i*13+12) [m],?_,h1,LinesC.set h2 (by simpa using h) (by simpa using hm)⟩;have:(i+1)*13+12=(J3 l dv).length+(i*13+12):=by simp[J3];omega
  rw[this,Qa3]
theorem Qo.set:∀{ls:List Qp} {ds:List (List UInt8)} {cs:List V} {i:Nat} {m:V},Qo cs ls ds->(h:i<ds.length)->Qe m ds[i]->Qo (splice cs (i*12+6) [m]) ls ds
 |_,[],cs,i,m,_,h,_=>absurd h (by simp)
 |[],_::_,cs,i,m,h0,h,_=>h0.elim
 |l::ls,x::ds,cs,0,m,⟨dv,d,e,h1,h2,h3⟩,_,hm=>by
  subst e;exact⟨m,d,by rw[Qem _ _ _ _ (by simp[Ql])];rfl,hm,h2,h3⟩
 |l::ls,x::ds,cs,i+1,m,⟨dv,d,e,h1,h2,h3⟩,h,hm=>by
  subst e;refine⟨dv,splice d (i*12+6) [m],?_,h1,h2,Qo.set h3 (by simpa using h) (by simpa using hm)⟩;have:(i+1)*12+6=(Ql l dv).length+(i*12+6):=by simp[Ql];omega
  rw[this,Qa3]
theorem Kw.set:∀{l:List (List UInt8)} {cs:List V} {i:Nat} {m:V},Kw cs l->(h:i<l.length)->Qe m l[i]->Kw (splice cs i [m]) l
 |[],cs,i,m,_,h,_=>absurd h (by simp)
 |x::l,cs,0,m,⟨v,d,e,h1,h2⟩,_,hm=>by
  subst e;exact⟨m,d,by unfold splice;simp,hm,h2⟩
 |x::l,cs,i+1,m,⟨v,d,e,h1,h2⟩,h,hm=>by
  subst e;refine⟨v,splice d i [m],?_,h1,Kw.set h2 (by simpa using h) (by simpa using hm)⟩;have:=Qa3 [v] d i [m];simpa [Nat.add_comm] using this
theorem plApp{a b:List V}(h1:Qu a=true)(h2:Qu b=true):Qu (a++b)=true:=by
 induction a with
 |nil=>exact h2
 |cons x a ih=>
  simp only[Qu,Zok] at h1;simp only[Zo8,Qu,h1.1,ih h1.2,Zqc]
theorem Qpu{esz n:Nat}{v:V}{cells:List V}(h:Qw esz v cells n):v.pure=true:=by obtain⟨_,⟨rfl,_⟩|⟨f,rfl⟩⟩:=h<;>rfl
theorem Qkd{esz n:Nat}{v:V}{cells:List V}(h:Qw esz v cells n):v.scalar=true:=by obtain⟨_,⟨rfl,_⟩|⟨f,rfl⟩⟩:=h<;>rfl
theorem LinesC.pure:∀{ls:List Zy} {cs:List V},LinesC cs ls->Qu cs=true/\cs.all V.scalar=true
 |[],cs,h=>by
  have:cs=[]:=h;subst this;exact⟨rfl,rfl⟩
 |l::ls,cs,⟨dv,d,e,h1,h2⟩=>by
  subst e;have p:=Qpu h1;have q:=Qkd h1;refine⟨plApp (by simp only[J3,Qu,V.pure,p,Zqc]) h2.pure.1,?_⟩;rw[Zqf,h2.pure.2,Zo9];simp only[J3,Zqn,List.all_nil,q];rfl
theorem Qo.pure:∀{ls:List Qp} {ds:List (List UInt8)} {cs:List V},Qo cs ls ds->Qu cs=true/\cs.all V.scalar=true
 |[],[],cs,h=>by
  have:cs=[]:=h;subst this;exact⟨rfl,rfl⟩
 |[],_::_,_,h=>h.elim
 |_::_,[],_,h=>h.elim
 |l::ls,x::ds,cs,⟨dv,d,e,h1,h2,h3⟩=>by
  subst e;have p:=Qpu h1;have q:=Qkd h1;refine⟨plApp (by simp only[Ql,Qu,V.pure,p,Zqc]) h3.pure.1,?_⟩;rw[Zqf,h3.pure.2,Zo9];simp only[Ql,Zqn,List.all_nil,q];rfl
theorem Kw.pure:∀{l:List (List UInt8)} {cs:List V},Kw cs l->Qu cs=true/\cs.all V.scalar=true
 |[],cs,h=>by
  have:cs=[]:=h;subst this;exact⟨rfl,rfl⟩
 |x::l,cs,⟨v,d,e,h1,h2⟩=>by
  subst e;have p:=Qpu h1;have q:=Qkd h1;exact⟨by simp only[Qu,p,h2.pure.1,Zqc],by simp only[Zqn,q,h2.pure.2,Zqc]⟩
theorem Qo.at2:∀{ls:List Qp} {ds:List (List UInt8)} {cs:List V} {i:Nat},Qo cs ls ds->(h:i<ls.length)->∃dv,(cs.drop (i*12)).take 12=Ql ls[i] dv/\∃h2:i<ds.length,Qe dv ds[i]/\ls[i].n=ds[i].length
 |[],_,cs,i,_,h=>absurd h (by simp)
 |_::_,[],cs,i,h,_=>h.elim
 |l::ls,x::ds,cs,0,⟨dv,d,e,h1,h2,h3⟩,_=>by
  subst e;exact⟨dv,rfl,by simp,h1,h2⟩
 |l::ls,x::ds,cs,i+1,⟨dv,d,e,h1,h2,h3⟩,h=>by
  subst e;rw[show(i+1)*12=(Ql l dv).length+i*12 by simp[Ql];omega,<-Zol,List.drop_left];obtain⟨dv',a,b,c⟩:=Qo.at2 h3 (by simpa using h);exact⟨dv',by simpa using a,by simpa using b,by simpa using c⟩
theorem Qer{d t:Bool}{e c:Int}(h:Bi (okE d) t e c=true):d=true/\t=true/\1<=e/\e<=65535/\c<=65535:=by simp only[Bi,Xo,Zoy,Zox,Zqp,decide_eq_false_iff_not] at h;obtain⟨h1,h2,h3,h4,h5⟩:=h;exact⟨h1,h2,by omega,by omega,by omega⟩
theorem Qe0{l:List UInt8}(h:Yx l=true):l.length=256:=by simp only[Yx,Zok,beq_iff_eq] at h;exact h.1.1
theorem Qts(sp:Nat->Int):∀{l:List Int} {o:Option Int} (k:Int),Qdx sp o l=true->11<=k->(∀q,o=some q->q=k)->(o=none->k=11)->l.length=0\/(l.length:Int)<=255-k
 |[],_,_,_,_,_,_=> .inl rfl
 |a::r,o,k,h,hk,h2,h3=>by
  right;have key:k<a/\a<256/\Qdx sp (some a) r=true:=by
   cases o with
   |none=>
    have:=h3 rfl;simp only[Qdx] at h;split at h
    . cases h
    rename_i h1;simp only[Zpd,decide_eq_true_eq,not_or] at h1;exact⟨by omega,by omega,h⟩
   |some q=>
    have:=h2 q rfl;simp only[Qdx] at h;split at h
    . cases h
    rename_i h1;simp only[Zpd,decide_eq_true_eq,not_or] at h1;exact⟨by omega,by omega,h⟩
  obtain⟨hka,hk6,h⟩:=key;rcases Qts sp a h (by omega) (fun q e=>by cases e;rfl) (fun e=>by cases e) with h4|h4
  . simp only[Zp9,h4];omega
  . simp only[Zp9];omega
theorem Zab{x:Kc}(h:Qah (okE (Jn x.blocks x.waits)) (Yx x.space) (Qev x.space) x.p=true):x.p.own.length<=256:=by
 unfold Qah at h;split at h
 . cases h
 split at h
 case isFalse=>cases h
 rename_i h2;rcases Qts _ 11 h2 (by omega) (fun q e=>by cases e) (fun _=>rfl) with h3|h3<;>omega
end Go.AM
namespace Go.AM.BM
def Qj5(n:Nat):Nat->List V
 |0=>[]
 |k+1=> .int .u8 (.ofNat (Nat.mod n 256))::Qj5 (Nat.div n 256) k
def keyC(x:W4):List V:=Qj5 x.a 4++(Qj5 x.b 4++(Qj5 x.c 4++Qj5 x.d 4))
def kKey:List V->Option V
 |[x]=>(match Qqw x with
  |some l=>some (.iS (keyC (Qx4 l)) 16 false)
  |none=>none)
 |_=>none
end Go.AM.BM
namespace Go.AM
theorem Qo.setLaid:∀{ls:List Qp} {ds:List (List UInt8)} {cs:List V} {i:Nat} {q:Yb},Qo cs ls ds->(h:i<ls.length)->Qo (splice cs (i*12+7) q.cells) (ls.set i {ls[i] with laid:=q}) ds
 |[],_,cs,i,q,_,h=>absurd h (by simp)
 |_::_,[],cs,i,q,h,_=>h.elim
 |l::ls,x::ds,cs,0,q,⟨dv,d,e,h1,h2,h3⟩,_=>by
  subst e;exact⟨dv,d,by rw[Qem _ _ _ _ (by simp[Ql,Yb.cells])];rfl,h1,h2,h3⟩
 |l::ls,x::ds,cs,i+1,q,⟨dv,d,e,h1,h2,h3⟩,h=>by
  subst e;refine⟨dv,splice d (i*12+7) q.cells,?_,h1,h2,Qo.setLaid h3 (by simpa using h)⟩;have:(i+1)*12+7=(Ql l dv).length+(i*12+7):=by simp[Ql];omega
  rw[this,Qa3]
def KOk(c:Qp):Prop:=(0<=c.kind/\c.kind<256)/\0<=c.size/\c.size<=3840
theorem Qzq{c:Qp}(h:J8 c=true):KOk c:=by
 unfold J8 at h;split at h
 . cases h
 split at h
 . simp only[Zok,decide_eq_true_eq,Zpd,beq_iff_eq] at h;obtain⟨⟨h1,h2,h3,h4⟩,h5,h6,h7⟩:=h;refine⟨⟨?_,by omega⟩,?_,h4⟩
   . rcases h7 with h7|h7
     . omega
     . omega
   . split at h2<;>omega
 . simp only[Zok,decide_eq_true_eq,Zpd,beq_iff_eq] at h;obtain⟨⟨h1,h2,h3⟩,_⟩:=h;exact⟨⟨by omega,by omega⟩,by omega,by omega⟩
theorem Qo.put:∀{ls:List Qp} {ds:List (List UInt8)} {cs:List V} {i:Nat} {c:Qp} {dv:V} {x:List UInt8},Qo cs ls ds->(h:i<ls.length)->Qe dv x->c.n=x.length->Qo (splice cs (i*12) (Ql c dv)) (ls.set i c) (ds.set i x)
 |[],_,cs,i,c,dv,x,_,h,_,_=>absurd h (by simp)
 |_::_,[],cs,i,c,dv,x,h,_,_,_=>h.elim
 |l::ls,y::ds,cs,0,c,dv,x,⟨dv0,d,e,h1,h2,h3⟩,_,g1,g2=>by
  subst e;exact⟨dv,d,by rw[Qem _ _ _ _ (by simp[Ql])];rfl,g1,g2,h3⟩
 |l::ls,y::ds,cs,i+1,c,dv,x,⟨dv0,d,e,h1,h2,h3⟩,h,g1,g2=>by
  subst e;refine⟨dv0,splice d (i*12) (Ql c dv),?_,h1,h2,Qo.put h3 (by simpa using h) g1 g2⟩;have:(i+1)*12=(Ql l dv0).length+(i*12):=by simp[Ql];omega
  rw[this,Qa3]
theorem Qo.take:∀{ls:List Qp} {ds:List (List UInt8)} {cs:List V} (i:Nat),Qo cs ls ds->Qo (cs.take (i*12)) (ls.take i) (ds.take i)
 |[],[],cs,i,h=>by
  have:cs=[]:=h;subst this;simp[Qo]
 |[],_::_,_,_,h=>h.elim
 |_::_,[],_,_,h=>h.elim
 |l::ls,y::ds,cs,0,_=>by simp[Qo]
 |l::ls,y::ds,cs,i+1,⟨dv0,d,e,h1,h2,h3⟩=>by
  subst e;refine⟨dv0,d.take (i*12),?_,h1,h2,h3.take i⟩;have:(i+1)*12=(Ql l dv0).length+(i*12):=by simp[Ql];omega
  rw[this,List.take_length_add_append]
theorem Qo.drop:∀{ls:List Qp} {ds:List (List UInt8)} {cs:List V} (i:Nat),Qo cs ls ds->Qo (cs.drop (i*12)) (ls.drop i) (ds.drop i)
 |[],[],cs,i,h=>by
  have:cs=[]:=h;subst this;simp[Qo]
 |[],_::_,_,_,h=>h.elim
 |_::_,[],_,_,h=>h.elim
 |l::ls,y::ds,cs,0,h=>by simpa using h
 |l::ls,y::ds,cs,i+1,⟨dv0,d,e,h1,h2,h3⟩=>by
  subst e;have:(i+1)*12=(Ql l dv0).length+(i*12):=by simp[Ql];omega
  rw[this,List.drop_length_add_append];exact h3.drop i
theorem Qo.app:∀{ls ls' :List Qp} {ds ds' :List (List UInt8)} {cs cs' :List V},Qo cs ls ds->Qo cs' ls' ds' ->Qo (cs++cs') (ls++ls') (ds++ds')
 |[],_,[],_,cs,_,h,h' =>by
  have:cs=[]:=h;subst this;exact h'
 |[],_,_::_,_,_,_,h,_=>h.elim
 |_::_,_,[],_,_,_,h,_=>h.elim
 |l::ls,_,y::ds,_,cs,_,⟨dv0,d,e,h1,h2,h3⟩,h' =>by
  subst e;exact⟨dv0,d++_,by rw[Zo6],h1,h2,h3.app h'⟩
def Qf3:Qp:=⟨0,0,0,0,0,0,0,Bf⟩
theorem Qo.zeros:∀k:Nat,Qo (zerosN (Ql Qf3 .nS) k) (List.replicate k Qf3) (List.replicate k [])
 |0=>rfl
 |k+1=>⟨.nS,_,rfl,Qw.nil,rfl,Qo.zeros k⟩
theorem Qp7{α:Type}(z:List α):∀k:Nat,(zerosN z k).length=k*z.length
 |0=>by simp[zerosN]
 |k+1=>by simp only[zerosN,Zom,Qp7 z k,Zpn];omega
theorem Qmb(q:Nat->Nat->Bool):∀a b:List V,Qi q (a++b)=(Qi q a||Qi q b)
 |[],b=>by simp[Qi]
 |x::a,b=>by simp[Qi,Qmb q a b,Bool.or_assoc]
theorem Qo.refs{q:Nat->Nat->Bool}:∀{ls:List Qp} {ds:List (List UInt8)} {cs:List V},Qo cs ls ds->Qi q cs=false
 |[],[],cs,h=>by
  have:cs=[]:=h;subst this;rfl
 |[],_::_,_,h=>h.elim
 |_::_,[],_,h=>h.elim
 |l::ls,x::ds,cs,⟨dv,d,e,h1,h2,h3⟩=>by
  subst e;rw[Qmb,h3.refs,Zqr];simp only[Ql,Qi,V.refs,Qw.noRefs h1 q,Zqs]
theorem LinesC.refs{q:Nat->Nat->Bool}:∀{ls:List Zy} {cs:List V},LinesC cs ls->Qi q cs=false
 |[],cs,h=>by
  have:cs=[]:=h;subst this;rfl
 |l::ls,cs,⟨dv,d,e,h1,h2⟩=>by
  subst e;rw[Qmb,h2.refs,Zqr];simp only[J3,Qi,V.refs,Qw.noRefs h1 q,Zqs]
theorem Kw.refs{q:Nat->Nat->Bool}:∀{l:List (List UInt8)} {cs:List V},Kw cs l->Qi q cs=false
 |[],cs,h=>by
  have:cs=[]:=h;subst this;rfl
 |x::l,cs,⟨v,d,e,h1,h2⟩=>by
  subst e;simp only[Qi,Qw.noRefs h1 q,h2.refs,Zqs]
theorem Qdo{H:Heap}(h:Q2 (fun f _=>Nat.ble 3 f) H=true)(hn:3<=H.length):WF H:=Xm (Qa0 hn) H h
theorem Qx9{x:Kc}(h:Qah (okE (Jn x.blocks x.waits)) (Yx x.space) (Qev x.space) x.p=true):x.p.gen<=16777215:=by
 unfold Qah at h;split at h
 . cases h
 rename_i h1;simp only[Qko,Zpd,not_or,Zqo,Zqp,decide_eq_true_eq,decide_eq_false_iff_not] at h1;omega
def Bz(id b ep c0:Int):Nat->List Qp->List Qp->Nat->Prop
 |k,[],[],k' =>k' =k
 |k,c::l,d::m,k' =>(d=c/\Bz id b ep c0 k l m k')\/(c.laid=Bf/\c.set=id/\c0+k<65535/\(∃pt t s:Int,d={c with laid:=⟨pt,b,ep*65536+(c0+k+1),t,s⟩})/\Bz id b ep c0 (k+1) l m k')
 |_,_,_,_=>False
section
variable {id b ep c0 : Int}
theorem Bz.len:∀{l m:List Qp} {k k' :Nat},Bz id b ep c0 k l m k' ->m.length=l.length/\k<=k' /\k' <=k+l.length
 |[],[],k,k',h=>by
  have:k' =k:=h;subst this;simp
 |[],_::_,_,_,h=>h.elim
 |_::_,[],_,_,h=>h.elim
 |c::l,d::m,k,k',h=>by
  rcases h with⟨_,h⟩|⟨_,_,_,_,h⟩
  . have:=h.len;simp only[Zp9];omega
  . have:=h.len;simp only[Zp9];omega
theorem Bz.same:∀{l m:List Qp} {k k' :Nat} {c:Qp},Bz id b ep c0 k l m k' ->Bz id b ep c0 k (l++[c]) (m++[c]) k'
 |[],[],k,k',c,h=> .inl ⟨rfl,h⟩
 |[],_::_,_,_,_,h=>h.elim
 |_::_,[],_,_,_,h=>h.elim
 |x::l,d::m,k,k',c,h=>by
  rcases h with⟨h1,h⟩|⟨h1,h2,h4,h3,h⟩
  . exact .inl ⟨h1,h.same⟩
  . exact .inr ⟨h1,h2,h4,h3,h.same⟩
theorem Bz.one:∀{l m:List Qp} {k k' :Nat} {c:Qp} {pt t s:Int},Bz id b ep c0 k l m k' ->c.laid=Bf->c.set=id->c0+k' <65535->Bz id b ep c0 k (l++[c]) (m++[{c with laid:=⟨pt,b,ep*65536+(c0+k' +1),t,s⟩}]) (k' +1)
 |[],[],k,k',c,pt,t,s,h,h1,h2,h3=>by
  have:k' =k:=h;subst this;exact .inr ⟨h1,h2,h3,⟨pt,t,s,rfl⟩,rfl⟩
 |[],_::_,_,_,_,_,_,_,h,_,_,_=>h.elim
 |_::_,[],_,_,_,_,_,_,h,_,_,_=>h.elim
 |x::l,d::m,k,k',c,pt,t,s,h,g1,g2,g3=>by
  rcases h with⟨h1,h⟩|⟨h1,h2,h4,h3,h⟩
  . exact .inl ⟨h1,h.one g1 g2 g3⟩
  . exact .inr ⟨h1,h2,h4,h3,h.one g1 g2 g3⟩
def Qbf(id b ep c0:Int)(L:List Qp)(i k:Nat)(L' :List Qp):Prop:=∃M,Bz id b ep c0 0 (L.take i) M k/\L' =M++L.drop i
variable {L L' : List Qp} {i k : Nat}
theorem Qbf.zero(L:List Qp):Qbf id b ep c0 L 0 0 L:=⟨[],by simp[Bz],by simp⟩
theorem Qbf.at_(h:Qbf id b ep c0 L i k L')(hi:i<L.length):L'.length=L.length/\∃h' :i<L'.length,L'[i]=L[i]:=by obtain⟨M,h1,rfl⟩:=h;have:=h1.len.1;rw[Zo1,Nat.min_eq_left (by omega)] at this;refine⟨by simp[this];omega,by simp[this];omega,?_⟩;rw[List.getElem_append_right (by omega)];simp[this]
theorem Qbf.same(h:Qbf id b ep c0 L i k L')(hi:i<L.length):Qbf id b ep c0 L (i+1) k L' :=by
 obtain⟨M,h1,rfl⟩:=h;refine⟨M++[L[i]],?_,?_⟩
 . rw[Zqm hi];exact h1.same
 . rw[Zo6,Zo7,<-Zqt hi]
theorem Qbf.one(h:Qbf id b ep c0 L i k L')(hi:i<L.length)(h1:L[i].laid=Bf)(h2:L[i].set=id)(hk:c0+k<65535)(pt t s:Int):Qbf id b ep c0 L (i+1) (k+1) (L'.set i {L[i] with laid:=⟨pt,b,ep*65536+(c0+k+1),t,s⟩}):=by
 obtain⟨M,h3,rfl⟩:=h;have hl:=h3.len.1;rw[Zo1,Nat.min_eq_left (by omega)] at hl;refine⟨M++[{L[i] with laid:=⟨pt,b,ep*65536+(c0+k+1),t,s⟩}],?_,?_⟩
 . rw[Zqm hi];exact h3.one h1 h2 hk
 . rw[Zqt hi,Zo6,Zo7,List.set_append_right _ _ (by omega),hl,Nat.sub_self];rfl
theorem Qbf.end_(h:Qbf id b ep c0 L i k L')(hi:L.length<=i):Bz id b ep c0 0 L L' k:=by obtain⟨M,h1,rfl⟩:=h;rw[Zpf hi] at h1;rw[Zqe hi,Zou];exact h1
end
end Go.AM
namespace Go.AM.BM
section
variable {P : Program} {E : Env} {B : Nat} {F : Nat -> Nat -> Prop} {H : Heap}
theorem Qkb{f:FuncId}{args:Array Value}{w:World}{v:V}{x:Option (Nat×Nat×O)}(one:H.length=1)(h:AM.Invokes P f args w (AM.Answer B F H E (.ret v) (wr H x))):Invokes P f args w (Answer B F H E (.ret v) (wr H x)):=by
 have key:∀e w',AM.Answer B F H E (.ret v) (wr H x) e w' ->Answer B F H E (.ret v) (wr H x) e w' :=by rintro e w' ⟨E',h1,h2,h3,h4,h5⟩;rw[one] at h4;exact⟨E',h1,h2,h3,h4,by rw[AM.wr_length];exact one⟩
 rcases h with⟨u,w',h1,h2⟩|⟨j,h1,h2⟩
 . exact .inl ⟨u,w',h1,key _ _ h2⟩
 . exact .inr ⟨j,h1,h2.mono key⟩
theorem Qtv{G G' :Get}(h:GLe G G'){x:V}{l:List UInt8}(e:bytesV G x=some l):bytesV G' x=some l:=by
 unfold bytesV at e⊢;split at e
 . exact e
 . rename_i y hy;cases hs:Qk G 1 x with
   |none=>rw[hs] at e;cases e
   |some q=>
    rw[hs] at e;have hs' :Qk G' 1 x=some q:=by exact Qaa h hs
    rw[hs'];exact e
theorem Qp8(nm:Nat)(G G' :Get)(args:List V)(v:V)(w:Option (Nat×Nat×O))(h:GLe G G')(e:K8 0 (some nm) G args=some (v,w)):
 K8 0 (some nm) G' args=some (v,w)/\∀x∈w.toList,(∃y,G x.1 x.2.1=some y)\/(x.1=0/\x.2.1=nm):=by
 unfold K8 at e⊢;split at e
 case h_2=>cases e
 rename_i y c;split at e
 case h_2=>cases e
 rename_i l hl;cases e;exact⟨by simp only[Qtv h hl],fun x hx=>by cases hx⟩
theorem Qjt(nm:Nat)(G G' :Get)(args:List V)(v:V)(w:Option (Nat×Nat×O))(h:GLe G G')(e:Kt 0 (some nm) G args=some (v,w)):
 Kt 0 (some nm) G' args=some (v,w)/\∀x∈w.toList,(∃y,G x.1 x.2.1=some y)\/(x.1=0/\x.2.1=nm):=by
 unfold Kt at e⊢;split at e
 case h_2=>cases e
 rename_i y c;split at e
 case h_2=>cases e
 rename_i l hl;cases e;exact⟨by simp only[Qtv h hl],fun x hx=>by cases hx⟩
theorem Qso(nm:Nat)(G G' :Get)(args:List V)(v:V)(w:Option (Nat×Nat×O))(h:GLe G G')(hn:G' 0 nm=G 0 nm)(e:Qdj 0 (some nm) G args=some (v,w)):
 Qdj 0 (some nm) G' args=some (v,w)/\∀x∈w.toList,(∃y,G x.1 x.2.1=some y)\/(x.1=0/\x.2.1=nm):=by
 unfold Qdj at e⊢;split at e
 case h_2=>cases e
 rename_i n d he;cases he;split at e
 case h_2=>cases e
 rename_i hg;split at e
 case isFalse=>cases e
 rename_i hc;cases e;refine⟨by simp only[hn,hg];rw[if_pos hc],fun x hx=>?_⟩;simp only[Option.toList,Zoh] at hx;subst hx;exact .inr ⟨rfl,rfl⟩
end
end Go.AM.BM
end
end
