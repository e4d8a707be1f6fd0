/- This file holds in one the texts DK, TP, An51, TP2, TP3, LP, An55, Bx29, Bf3, Bf4; each says at its head what it proves. -/
import Derived.Test.YtpdimkonjmoadaaGreatDoorT10
import Derived.Test.YtpdimkonjmoadaaGreatDoorT12
import Derived.Test.YtpdimkonjmoadaaGreatDoorT13
import Derived.Test.YtpdimkonjmoadaaGreatDoorT14
import Derived.Test.YtpdimkonjmoadaaGreatDoorT16
import Derived.Test.YtpdimkonjmoadaaGreatDoorT17
set_option linter.unusedSimpArgs false
set_option linter.unusedVariables false
noncomputable section
section
namespace Go.AM.BM
def isNumB:V->Bool
 | .int _ _=>true
 |_=>false
def Q3l(v:V):Bool:=match v with
 | .iS c n _=>Nat.beq n 256&&(Nat.beq c.length 256&&c.all isNumB)
 |_=>false
def Qsp:V->List V
 | .iS c _ _=>c
 |_=>[]
def Qeb:List V->Bool
 |[]=>true
 | .int .i64 a::v::r=>decide (0<=a)&&decide (a<256)&&Q3l v&&Qeb r
 |_=>false
def Qjr:V->Option (List V×Nat)
 | .nS=>some ([],0)
 | .iS cs n _=>if Nat.beq cs.length (n*2)&&Nat.ble n 4096&&Qeb cs then some (cs,n) else none
 |_=>none
def Qkr:V->Option (List V)
 | .iS rv n _=>if Nat.beq n 256&&Nat.beq rv.length 256&&rv.all Q3l then some rv else none
 |_=>none
def newRow(fl:Bool)(v:V):V:= .iS (Qsp v) 256 fl
def Qe8:List V->List V
 |a::v::r=>a::newRow false v::Qe8 r
 |l=>l
def Qu5(rv cs:List V)(n:Nat):V:= .agg [.iS (rv.map (newRow true)) 256 false,if n=0 then .nS else .iS (Qe8 cs) n false]
def Q26:List V->Option V
 |[.agg [bv,wv]]=>(match Qkr bv,Qjr wv with
  |some rv,some (cs,n)=>some (Qu5 rv cs n)
  |_,_=>none)
 |_=>none
def Qgb:List V->List V->List V
 | .int _ a::v::r,rv=>Qgb r (rv.set a.toNat v)
 |_,rv=>rv
def isFn:V->Bool
 | .func (.func _) [] []=>true
 | .func (.func _) [] [.iptr _ _]=>true
 | .func (.func _) [] [.bad]=>true
 |_=>false
def isAll(all:FuncId):V->Bool
 | .func (.func f) [] []=>Nat.beq f all
 |_=>false
def Q3e(all:FuncId):List V->Option V
 |[.agg [bv,wv],sv]=>if isFn sv then(match Qkr bv,Qjr wv with
  |some rv,some (cs,n)=>if isAll all sv||Nat.beq n 0 then some (Qu5 (Qgb cs rv) [] 0) else none
  |_,_=>none) else none
 |_=>none
def Qus:List V->Option V
 |[.agg [.nS,.nS]]=>some (.int .i64 8)
 |[.agg [bv,wv]]=>(match Qkr bv,Qjr wv with
  |some _,some _=>some (.int .i64 0)
  |_,_=>none)
 |_=>none
def Zcb:List V:=List.replicate 256 (.int .u8 0)
def kNew:List V->Option V
 |[]=>some (.agg [.iS (List.replicate 256 (.iS Zcb 256 true)) 256 false,.nS])
 |_=>none
structure W4 where
 a:Nat
 b:Nat
 c:Nat
 d:Nat
def Qdd(x y:Nat):Nat:=Nat.mod (Nat.add x y) (nat_lit 4294967296)
def Qhz(x k:Nat):Nat:=Nat.lor (Nat.mod (Nat.shiftLeft x k) (nat_lit 4294967296)) (Nat.shiftRight x (Nat.sub (nat_lit 32) k))
def Qdw{α:Type}(x:Nat)(k:Nat->α):α:=Nat.rec (motive:=fun _=>α) (k (nat_lit 0)) (fun m _=>k (Nat.succ m)) x
def Qg3(far near:Nat)(x:W4):W4:=
 Qdw (Qdd x.a x.b) fun a=>Qdw (Qhz (Nat.xor x.d a) far) fun d=>Qdw (Qdd x.c d) fun c=>Qdw (Qhz (Nat.xor x.b c) near) fun b=>⟨a,b,c,d⟩
def Qic(x:W4):W4:=Qg3 (nat_lit 9) (nat_lit 6) (Qg3 (nat_lit 15) (nat_lit 11) x)
def Xy(n:Nat):W4->W4:=Nat.rec (motive:=fun _=>W4->W4) (fun x=>x) (fun _ ih x=>ih (Qic x)) n
def Q2w(v:V):Nat:=vInt v (fun _ m=>Int.rec (motive:=fun _=>Nat) (fun a=>a) (fun _=>nat_lit 0) m) (nat_lit 0)
def num4(w x y z:V):Nat:=Nat.add (Q2w w) (Nat.mul (nat_lit 256) (Nat.add (Q2w x) (Nat.mul (nat_lit 256) (Nat.add (Q2w y) (Nat.mul (nat_lit 256) (Q2w z))))))
def Qlb(n:Nat):List V->W4->W4:=Nat.rec (motive:=fun _=>List V->W4->W4) (fun _ x=>x) (fun _ ih l x=>match l with
 |a::b::c::d::e::f::g::h::r=>Qdw (Nat.xor x.a (num4 a b c d)) fun p=>Qdw (Nat.xor x.c (num4 e f g h)) fun q=>ih r (Xy (nat_lit 4) ⟨p,x.b,q,x.d⟩)
 |_=>x) n
def pad8(l:List V):List V:=l++ .int .u8 1::List.replicate ((8-(l.length+1)%8)%8) (.int .u8 0)
def Qm5(l:List V):W4:=match Qlb (l.length+1) (pad8 l) ⟨1,2,3,4⟩ with
 |x=>Xy (nat_lit 8) ⟨x.a,Nat.xor x.b l.length,x.c,x.d⟩
def Qok:V->Bool
 | .int .u8 (.ofNat n)=>Nat.blt n 256
 |_=>false
def Qmn:V->Option (List V)
 | .nS=>some []
 | .iS c n _=>if Nat.beq c.length n&&(Nat.ble n 1048576&&c.all Qok) then some c else none
 |_=>none
def kSum:List V->Option V
 |[x]=>(match Qmn x with
  |some l=>some (.int .u32 (Int.ofNat (Qm5 l).a))
  |none=>none)
 |_=>none
def maxV(l:List V):Nat->Nat:=List.rec (motive:=fun _=>Nat->Nat) (fun m=>m) (fun v _ ih m=>Bool.rec (motive:=fun _=>Nat) (ih m) (ih (Q2w v)) (Nat.ble (Nat.succ m) (Q2w v))) l
def kMax:List V->Option V
 |[x]=>(match Qmn x with
  |some (v::l)=>some (.int .u8 (Int.ofNat (maxV l (Q2w v))))
  |_=>none)
 |_=>none
end Go.AM.BM
namespace Go.AM
def Qaj:List V->List (Int×List UInt8)->Prop
 |cs,[]=>cs=[]
 |cs,w::r=>∃v d,cs= .int .i64 w.1::v::d/\Qk v w.2/\Qaj d r
def Xh(v:V)(l:List (Int×List UInt8)):Prop:=∃cs,Qaj cs l/\Qv 2 v cs l.length
theorem Qaj.len:∀{l:List (Int×List UInt8)} {cs:List V},Qaj cs l->cs.length=l.length*2
 |[],cs,h=>by
  have:cs=[]:=h;subst this;rfl
 |x::r,cs,h=>by
  obtain⟨v,d,rfl,h1,h2⟩:=h;simp only[Zq2,h2.len];omega
theorem Qaj.at_:∀{l:List (Int×List UInt8)} {cs:List V} {i:Nat},Qaj cs l->(h:i<l.length)->cs[2*i]?=some (.int .i64 l[i].1)/\∃v,cs[2*i+1]?=some v/\Qk v l[i].2
 |x::r,cs,0,h,hi=>by
  obtain⟨v,d,rfl,h1,h2⟩:=h;exact⟨rfl,v,rfl,h1⟩
 |x::r,cs,i+1,h,hi=>by
  obtain⟨v,d,rfl,h1,h2⟩:=h;obtain⟨h3,w,h4,h5⟩:=h2.at_ (i:=i) (by simpa using hi);have e:2*(i+1)=2*i+1+1:=by omega
  refine⟨?_,w,?_,?_⟩
  . rw[e];simpa using h3
  . rw[e];simpa using h4
  . simpa using h5
def Qvr(a:Int):Bool:=decide ((IntKind.u64).wrap a<256)
def Qdn(b:List UInt8):Bool:=(b.length:Int)==256
def Qg5(w:Int×List UInt8):Bool:=Qvr w.1&&Qdn w.2
def Qo9(bl:List (List UInt8))(wl:List (Int×List UInt8)):Bool:=((((bl.length:Int)==256)&&decide ((wl.length:Int)<=4096))&&bl.all Qdn)&&wl.all Qg5
def Qlr{α:Type}(b:Bool)(p:α->Bool)(l:List α)(i:Nat):Bool:=b&&(l.take i).all p
theorem Qtn{α:Type}(b:Bool)(p:α->Bool)(l:List α):Qlr b p l 0=b:=by simp[Qlr]
theorem Qt0{α:Type}(b:Bool)(p:α->Bool)(l:List α)(i:Nat)(h:i<l.length):Qlr b p l (i+1)=(Qlr b p l i&&p l[i]):=by simp only[Qlr,Zr6 h,Zr0,Zr7,List.all_nil,Zqq,Bool.and_assoc]
theorem Qxu{α:Type}(b:Bool)(p:α->Bool)(l:List α)(i:Nat)(h:l.length<=i):Qlr b p l i=(b&&l.all p):=by simp only[Qlr,Zr8 h]
def Zr:List V->List Zv->List (List UInt8)->Prop
 |cs,[],[]=>cs=[]
 |cs,c::r,x::s=>∃dv d,cs=Qw c dv++d/\Qk dv x/\c.n=x.length/\Zr d r s
 |_,_,_=>False
theorem Zr.toC:∀{ls:List Zv} {ds:List (List UInt8)} {cs:List V},Zr cs ls ds->ChangesC cs ls
 |[],[],cs,h=>h
 |c::r,x::s,cs,h=>by
  obtain⟨dv,d,rfl,h1,h2,h3⟩:=h;exact⟨dv,d,rfl,⟨_,by rw[h2];exact h1⟩,h3.toC⟩
def Ka.Rng(p:Ka):Prop:=(0<=p.birth/\p.birth<4294967296)/\(0<=p.iv/\p.iv<4294967296)/\(0<=p.tag/\p.tag<4294967296)/\(0<=p.sum/\p.sum<4294967296)
structure Yj where
 blocks:List (List UInt8)
 waits:List (Int×List UInt8)
 space:List UInt8
 p:Qqv
 datas:List (List UInt8)
abbrev Xc:Nat:=9223372036854775807
structure Yj.Fits(x:Yj):Prop where
 blocks:x.blocks.length<=Xc
 waits:x.waits.length<=Xc
 space:x.space.length<=Xc
 own:x.p.own.length<=Xc
 lines:x.p.lines.length<=Xc
 keys:x.p.keys.length<=Xc
 loaded:x.p.loaded.length<=Xc
 changes:x.p.changes.length<=Xc
 rows:∀k∈x.blocks,k.length<=Xc
 wdata:∀w∈x.waits,w.2.length<=Xc
 keyl:∀k∈x.p.keys,k.length<=Xc
 loadedl:∀k∈x.p.loaded,k.length<=Xc
 dead:∀l∈x.p.lines,l.dead.length<=Xc
 data:∀k∈x.datas,k.length<=Xc
 wat:∀w∈x.waits,-9223372036854775808<=w.1/\w.1<=9223372036854775807
 root:x.p.root.Rng
 roots:∀l∈x.p.lines,l.root.Rng
 laids:∀c∈x.p.changes,c.laid.Rng
 nums:(0<=x.p.count/\x.p.count<4294967296)/\0<=x.p.gen/\x.p.gen<4294967296
structure Yh(bv wv sv mv lv kv ov cv:V)(x:Yj):Prop where
 blocks:Kf bv x.blocks
 waits:Xh wv x.waits
 space:Qk sv x.space
 own:Ke mv x.p.own
 lines:Qil lv x.p.lines
 keys:Kf kv x.p.keys
 loaded:Kf ov x.p.loaded
 changes:∃cs,Zr cs x.p.changes x.datas/\Qv 12 cv cs x.p.changes.length
section
variable {P : Program} {pol : Pol} {L : Kc -> Kv} {fn fr : Nat} {t : List V} {H : Heap} {k : List It} {Q : Ex -> List V -> Heap -> Prop}
theorem Zc5{C:Call}{g:Operand}{ps:Array Tmp}{a b:Code}{f:FuncId}{first cap:List V}(hg:rho t g= .func (.func f) first cap)(hf:Qd H fr (Q8 (Ze a b))=none):
 U P pol C L fn fr (.code (.rangeFunc g ps a b)::k) .normal t H=(match C f (first++[.yield fr (Q8 (Ze a b))]++cap) (hset H fr (Q8 (Ze a b)) (.loop 0 none fn (Ze a b) t)) with
   |some (.ret _,H2)=>UL P pol C L fn fr (Qab fr (Q8 (Ze a b)) t H2) k
   |_=>none):=by
 simp only[U,Q6,hg,hf,UL];cases C f (first++[.yield fr (Q8 (Ze a b))]++cap) (hset H fr (Q8 (Ze a b)) (.loop 0 none fn (Ze a b) t)) with
 |none=>rfl
 |some q=>obtain⟨q,H2⟩:=q;cases q<;>rfl
theorem W.rfunc{g:Operand}{ps:Array Tmp}{a b:Code}{f:FuncId}{first cap:List V}{rid:Nat}(hr:Ze a b=rid)(hg:rho t g= .func (.func f) first cap)(hf:Qd H fr (Q8 rid)=none)
 (h:CW P pol f (first++[.yield fr (Q8 rid)]++cap) (hset H fr (Q8 rid) (.loop 0 none fn rid t)) fun r H2=>∃v,r= .ret v/\W (UL P pol (Qq P pol) L fn fr (Qab fr (Q8 rid) t H2) k) Q):
 W (U P pol (Qq P pol) L fn fr (.code (.rangeFunc g ps a b)::k) .normal t H) Q:=by
 subst hr;obtain⟨r,H2,h1,v,rfl,h2⟩:=h;rw[Zc5 hg hf,h1];exact h2
theorem Qoy{s st f r:Nat}{t0:List V}(hg:Qd H fr s=some (.loop st none f r t0))(hst:st≠1)(h1:Qh (Jx fr s) t=false)(h2:Zb (Jx fr s) (H.modify fr (Jk fun x=>[s].contains x))=true):
 Qab fr s t H=some (.normal,t,H.modify fr (Jk fun x=>[s].contains x)):=by
 simp only[Qab,hg,if_neg hst,h1,h2,Zpo,if_false,if_true]
theorem Qtt{F:Func}{c:Code}{fn rid:Nat}{x:Array Tmp×Code×Code}(hF:P.funcs[fn]?=some F)(hc:F.body=some c)(h:Qz rid c=some x):Qn P fn rid=some x:=by simp only[Qn,hF,hc,h]
theorem Qtr{t:List V}{i:Nat}{x d:V}(h:i<t.length):(t.set i x).getD i d=x:=by simp[List.getD,h]
theorem Quc{t:List V}{i j:Nat}{x d:V}(h:(i==j)=false):(t.set i x).getD j d=t.getD j d:=by
 have:i≠j:=by simpa using h
 simp[List.getD,this]
theorem Qy5{fo so:Nat}{args:List V}{p:Option (Option Nat)}{fL rid:Nat}{t0:List V}{ps:Array Tmp}{a b:Code}{R:Rt->Heap->Prop}
 (hg:Qd H fo so=some (.loop 0 p fL rid t0))(hl:Qn P fL rid=some (ps,a,b))(hn:args.length=ps.size)
 (h:W (U P pol (Qq P pol) Z1 fL H.length [.code a] .normal (Bo t0 (ps.toList.zip args)) (H++[[]])) fun e t1 H1=>e= .normal/\∃p' fL' rid' t0',Qd H1 fo so=some (.loop 0 p' fL' rid' t0')/\
   W (U P pol (Qq P pol) Z1 fL H.length [.code b] .normal t1 (hset H1 fo so (.loop 1 p' fL' rid' t0'))) fun e _ H2=>∃r H3,Bd fo so H.length e H2=some (r,H3)/\R r H3):
 ∃r H3,Qq P pol none (.yield fo so::args) H=some (r,H3)/\R r H3:=by
 obtain⟨e,t1,H1,h1,rfl,p',fL',rid',t0',h2,h3⟩:=h.out;obtain⟨e2,t2,H2,h4,r,H3,h5,h6⟩:=h3.out;refine⟨r,H3,Qxz ?_,h6⟩;have one' :∀(fr:Nat) (c:Code) t H,U P pol (Qq P pol) Z1 fL fr [.code c] .normal t H=Q6 P pol (Qq P pol) Z1 fL fr c t H:=by intro fr c t H;simp only[U];cases Q6 P pol (Qq P pol) Z1 fL fr c t H<;>rfl
 rw[one'] at h1 h4;unfold Qba;simp only[hg,hl,if_pos hn,h1,h2,h4];exact h5
end
structure PoolGood(x:Yj):Prop where
 store:Qd6 (okE (Qo9 x.blocks x.waits)) (Qbg x.space) x.p.epoch x.p.count=true
 lines:x.p.lines.length<=16
 line:∀l∈x.p.lines,Qgx l.root=true/\0<=l.key/\l.key<8
 keys:x.p.keys.length=8
 loaded:x.p.loaded.length=8
 key:∀k∈x.p.loaded,k.length=0\/k.length=16
 change:∀c∈x.p.changes,Qc0 c=true
theorem Zr.at_:∀{ls:List Zv} {ds:List (List UInt8)} {cs:List V} {i:Nat},Zr cs ls ds->(h:i<ls.length)->∃dv k,(cs.drop (i*12)).take 12=Qw ls[i] dv/\Qk dv k/\ls[i].n=k.length
 |c::r,x::s,cs,0,h,_=>by
  obtain⟨dv,d,rfl,h1,h2,h3⟩:=h;exact⟨dv,x,by rfl,h1,h2⟩
 |c::r,x::s,cs,i+1,h,hi=>by
  obtain⟨dv,d,rfl,h1,h2,h3⟩:=h;obtain⟨dv',k,h4,h5,h6⟩:=h3.at_ (i:=i) (by simpa using hi);refine⟨dv',k,?_,by simpa using h5,by simpa using h6⟩;rw[show(i+1)*12=(Qw c dv).length+i*12 by simp[Qw];omega,<-Zq5,List.drop_left];simpa using h4
 |c::r,[],cs,i,h,_=>h.elim
theorem Qfm{α:Type}(a d:List α)(o:Nat)(ys:List α):splice (a++d) (a.length+o) ys=a++splice d o ys:=by unfold splice;rw[List.take_append,Zr8 (by omega),show a.length+o-a.length=o by omega,Zqb,Zry,Zrz (by omega),show a.length+(o+ys.length)-a.length=o+ys.length by omega];simp
theorem Qnv{α:Type}(a d:List α)(o:Nat)(ys:List α)(h:o+ys.length<=a.length):splice (a++d) o ys=splice a o ys++d:=by unfold splice;rw[List.take_append_of_le_length (by omega),List.drop_append_of_le_length (by omega)];simp
theorem LinesC.set:∀{ls:List Ji} {cs:List V} {i:Nat} {m:V},LinesC cs ls->(h:i<ls.length)->Bm m ls[i].dead->LinesC (splice cs (i*13+12) [m]) ls
 |[],cs,i,m,_,h,_=>absurd h (by simp)
 |l::ls,cs,0,m,⟨dv,d,e,h1,h2⟩,_,hm=>by
  subst e;exact⟨m,d,by rw[Qnv _ _ _ _ (by simp[Ja])];rfl,hm,h2⟩
 |l::ls,cs,i+1,m,⟨dv,d,e,h1,h2⟩,h,hm=>by
  subst e;refine⟨dv,splice d (i*13+12) [m],?_,h1,LinesC.set h2 (by simpa using h) (by simpa using hm)⟩;have:(i+1)*13+12=(Ja l dv).length+(i*13+12):=by simp[Ja];omega
  rw[this,Qfm]
theorem Zr.set:∀{ls:List Zv} {ds:List (List UInt8)} {cs:List V} {i:Nat} {m:V},Zr cs ls ds->(h:i<ds.length)->Qk m ds[i]->Zr (splice cs (i*12+6) [m]) ls ds
 |_,[],cs,i,m,_,h,_=>absurd h (by simp)
 |[],_::_,cs,i,m,h0,h,_=>h0.elim
 |l::ls,x::ds,cs,0,m,⟨dv,d,e,h1,h2,h3⟩,_,hm=>by
  subst e;exact⟨m,d,by rw[Qnv _ _ _ _ (by simp[Qw])];rfl,hm,h2,h3⟩
 |l::ls,x::ds,cs,i+1,m,⟨dv,d,e,h1,h2,h3⟩,h,hm=>by
  subst e;refine⟨dv,splice d (i*12+6) [m],?_,h1,h2,Zr.set h3 (by simpa using h) (by simpa using hm)⟩;have:(i+1)*12+6=(Qw l dv).length+(i*12+6):=by simp[Qw];omega
  rw[this,Qfm]
theorem K0.set:∀{l:List (List UInt8)} {cs:List V} {i:Nat} {m:V},K0 cs l->(h:i<l.length)->Qk m l[i]->K0 (splice cs i [m]) l
 |[],cs,i,m,_,h,_=>absurd h (by simp)
 |x::l,cs,0,m,⟨v,d,e,h1,h2⟩,_,hm=>by
  subst e;exact⟨m,d,by unfold splice;simp,hm,h2⟩
 |x::l,cs,i+1,m,⟨v,d,e,h1,h2⟩,h,hm=>by
  subst e;refine⟨v,splice d i [m],?_,h1,K0.set h2 (by simpa using h) (by simpa using hm)⟩;have:=Qfm [v] d i [m];simpa [Nat.add_comm] using this
theorem plApp{a b:List V}(h1:Qo a=true)(h2:Qo b=true):Qo (a++b)=true:=by
 induction a with
 |nil=>exact h2
 |cons x a ih=>
  simp only[Qo,Zqf] at h1;simp only[Zqo,Qo,h1.1,ih h1.2,Zrw]
theorem Qpd{esz n:Nat}{v:V}{cells:List V}(h:Qv esz v cells n):v.pure=true:=by obtain⟨_,⟨rfl,_⟩|⟨f,rfl⟩⟩:=h<;>rfl
theorem Qkh{esz n:Nat}{v:V}{cells:List V}(h:Qv esz v cells n):v.scalar=true:=by obtain⟨_,⟨rfl,_⟩|⟨f,rfl⟩⟩:=h<;>rfl
theorem LinesC.pure:∀{ls:List Ji} {cs:List V},LinesC cs ls->Qo cs=true/\cs.all V.scalar=true
 |[],cs,h=>by
  have:cs=[]:=h;subst this;exact⟨rfl,rfl⟩
 |l::ls,cs,⟨dv,d,e,h1,h2⟩=>by
  subst e;have p:=Qpd h1;have q:=Qkh h1;refine⟨plApp (by simp only[Ja,Qo,V.pure,p,Zrw]) h2.pure.1,?_⟩;rw[Zr0,h2.pure.2,Zqq];simp only[Ja,Zr7,List.all_nil,q];rfl
theorem Zr.pure:∀{ls:List Zv} {ds:List (List UInt8)} {cs:List V},Zr cs ls ds->Qo cs=true/\cs.all V.scalar=true
 |[],[],cs,h=>by
  have:cs=[]:=h;subst this;exact⟨rfl,rfl⟩
 |[],_::_,_,h=>h.elim
 |_::_,[],_,h=>h.elim
 |l::ls,x::ds,cs,⟨dv,d,e,h1,h2,h3⟩=>by
  subst e;have p:=Qpd h1;have q:=Qkh h1;refine⟨plApp (by simp only[Qw,Qo,V.pure,p,Zrw]) h3.pure.1,?_⟩;rw[Zr0,h3.pure.2,Zqq];simp only[Qw,Zr7,List.all_nil,q];rfl
theorem K0.pure:∀{l:List (List UInt8)} {cs:List V},K0 cs l->Qo cs=true/\cs.all V.scalar=true
 |[],cs,h=>by
  have:cs=[]:=h;subst this;exact⟨rfl,rfl⟩
 |x::l,cs,⟨v,d,e,h1,h2⟩=>by
  subst e;have p:=Qpd h1;have q:=Qkh h1;exact⟨by simp only[Qo,p,h2.pure.1,Zrw],by simp only[Zr7,q,h2.pure.2,Zrw]⟩
theorem Zr.at2:∀{ls:List Zv} {ds:List (List UInt8)} {cs:List V} {i:Nat},Zr cs ls ds->(h:i<ls.length)->∃dv,(cs.drop (i*12)).take 12=Qw ls[i] dv/\∃h2:i<ds.length,Qk dv ds[i]/\ls[i].n=ds[i].length
 |[],_,cs,i,_,h=>absurd h (by simp)
 |_::_,[],cs,i,h,_=>h.elim
 |l::ls,x::ds,cs,0,⟨dv,d,e,h1,h2,h3⟩,_=>by
  subst e;exact⟨dv,rfl,by simp,h1,h2⟩
 |l::ls,x::ds,cs,i+1,⟨dv,d,e,h1,h2,h3⟩,h=>by
  subst e;rw[show(i+1)*12=(Qw l dv).length+i*12 by simp[Qw];omega,<-Zq5,List.drop_left];obtain⟨dv',a,b,c⟩:=Zr.at2 h3 (by simpa using h);exact⟨dv',by simpa using a,by simpa using b,by simpa using c⟩
mutual
def wt:V->Nat
 | .iS cs _ _=>wtL cs+1
 | .agg cs=>wtL cs
 |_=>1
def wtL:List V->Nat
 |[]=>0
 |v::r=>wt v+wtL r
end
theorem Qea:∀a b:List V,wtL (a++b)=wtL a+wtL b
 |[],b=>by simp[wtL]
 |x::a,b=>by
  show wt x+wtL (a++b)=(wt x+wtL a)+wtL b;rw[Qea a b];omega
structure Bulk{H:Type}(β:DataW H->Nat):Prop where
 one:∀d,1<=β d
 slice:∀a b,(a.map β).sum+1<=β (.slice a b)
 agg:∀a,(a.map β).sum<=β (.agg a)
section
variable {H : Type} {enc : TypeId × Value -> H} {P : Program} {W : World} {book : List TypeId} {β : DataW H -> Nat}
def Qku(β:DataW H->Nat)(P:Program)(W:World)(n:Nat)(t:TypeId)(cs:List Value)(d:DataW H):Prop:=∃xs,Zz P n t xs/\Qe (Qle P W) xs cs/\Qo xs=true/\wtL xs<=β d
theorem Qgg{n:Nat}{cs:List Value}:∀(fs:List Field) (ds:List (DataW H)) (o:Nat),Qet P o fs cs.length=true->fs.length=ds.length->(∀(k:Nat) f d,fs[k]?=some f->ds[k]?=some d->Qku β P W n f.type ((cs.drop f.offset).take (P.cellsOf f.type)) d)->
 ∃xs,Kh (Zz P n) (fs.map (·.type)) xs/\Qe (Qle P W) xs (cs.drop o)/\Qo xs=true/\wtL xs<=(ds.map β).sum
 |[],_,o,ht,_,_=>by
  simp only[Qet,beq_iff_eq] at ht;subst ht;exact⟨[],rfl,by rw[List.drop_length];exact .nil,rfl,Zr9 _⟩
 |_::_,[],_,_,hl,_=>by cases hl
 |f::r,d::s,o,ht,hl,h=>by
  simp only[Qet,Zqf,beq_iff_eq] at ht;obtain⟨rfl,ht⟩:=ht;obtain⟨y,h1,h2,h3,h4⟩:=h 0 f d rfl rfl;obtain⟨xs,g1,g2,g3,g4⟩:=Qgg r s _ ht (by simpa using hl) (fun k g e hg he=>h (k+1) g e hg he);refine⟨y++xs,⟨y,xs,h1,g1,rfl⟩,?_,Qco h3 g3,?_⟩
  . have e:cs.drop f.offset=(cs.drop f.offset).take (P.cellsOf f.type)++cs.drop (f.offset+P.cellsOf f.type):=by
     rw[<-Zq5,Zqa]
    rw[e];exact h2.append g2
  . rw[Qea,Zp4,List.sum_cons];omega
theorem Qgi{n c:Nat}{e:TypeId}{cs:List Value}:∀(k i:Nat) (ds:List (DataW H)),ds.length=k->(∀j d,ds[j]?=some d->Qku β P W n e ((cs.drop ((i+j)*c)).take c) d)->cs.length=(i+k)*c->
 ∃xs,Kh (Zz P n) (List.replicate k e) xs/\Qe (Qle P W) xs (cs.drop (i*c))/\Qo xs=true/\wtL xs<=(ds.map β).sum
 |0,i,_,_,_,hl=>by
  refine⟨[],rfl,?_,rfl,Zr9 _⟩;rw[List.drop_of_length_le (by rw[hl];simp)];exact .nil
 |k+1,i,[],hd,_,_=>by cases hd
 |k+1,i,d::ds,hd,h,hl=>by
  obtain⟨y,h1,h2,h3,h4⟩:=h 0 d rfl;obtain⟨xs,g1,g2,g3,g4⟩:=Qgi k (i+1) ds (by simpa using hd) (fun j d' hj=>by
   have:=h (j+1) d' hj
   rwa[show i+(j+1)=i+1+j by omega] at this) (by rw[hl];congr 1;omega)
  refine⟨y++xs,⟨y,xs,h1,g1,rfl⟩,?_,Qco h3 g3,?_⟩
  . have e:cs.drop (i*c)=(cs.drop (i*c)).take c++cs.drop ((i+1)*c):=by
     rw[Nat.succ_mul,<-Zq5,Zqa]
    rw[e];rw[Zsa] at h2;exact h2.append g2
  . rw[Qea,Zp4,List.sum_cons];omega
theorem Qkv{n c:Nat}{e:TypeId}{a:Addr}{ds:List (DataW H)}:∀(len:Nat),len<=ds.length->(∀i d,i<len->ds[i]?=some d->∃cs,W.cells? 0 (a.add (i*c)) c=some cs/\Qku β P W n e cs d)->
 ∃(ys:List (List V)) (vs:List Value),ys.length=len/\(∀y∈ys,Zz P n e y)/\Qe (Qle P W) ys.flatten vs/\Qo ys.flatten=true/\vs.length=len*c/\(∀i v,vs[i]?=some v->W.cell? (a.add i)=some v)/\wtL ys.flatten<=((ds.take len).map β).sum
 |0,_,_=>⟨[],[],rfl,(fun _ h=>by cases h),.nil,rfl,by simp,(fun i v h=>by simp at h),Zr9 _⟩
 |len+1,hd,h=>by
  obtain⟨ys,vs,h1,h2,h3,h4,h5,h6,h7⟩:=Qkv len (by omega) (fun i d hi=>h i d (by omega));obtain⟨cs,hc,y,g1,g2,g3,g4⟩:=h len ds[len] (by omega) (Zpk (by omega));obtain⟨_,hl,hcell⟩:=World.cells?_some hc;refine⟨ys++[y],vs++cs,by simp[h1],?_,?_,?_,by rw[Zqp,h5,hl,Nat.succ_mul],?_,?_⟩
  . intro z hz;rcases Zp8.1 hz with hz|hz
    . exact h2 z hz
    . rw[Zp9] at hz;subst hz;exact g1
  . rw[Zsb];simpa using h3.append g2
  . rw[Zsb];exact Qco h4 (by simpa using g3)
  . intro i v hv;rcases Zpm i vs.length with hi|hi
    . exact h6 i v (by rwa[Zre hi] at hv)
    . rw[Zqn hi] at hv;have hlt:i-vs.length<cs.length:=(Zq0.1 hv).1;have:=hcell (i-vs.length) (by omega);rw[Zbu,hv] at this;have e1:len*c+(i-vs.length)=i:=by omega
      rwa[e1] at this
  . rw[Zsb,Zqv,List.flatten_nil,Zqd,Qea,Zr6 (by omega),Zsc,List.sum_append,Zp4,Zp5,List.sum_cons,List.sum_nil];omega
theorem Qg7(hβ:Bulk β)(hb:Q2r P book=true):∀(fuel:Nat) (t:TypeId) (cs:List Value) (x:DataW H×List MemPlace),t∈book->
 DataW.trod enc P W 0 (fun _=>true) true fuel t cs=some x->Qku β P W fuel t cs x.1
 |0,t,cs,x,_,h=>by cases h
 |fuel+1,t,cs,x,ht,h=>by
  have ih:=fun t cs x=>Qg7 hβ hb fuel t cs x;have hbt:=Zqt.1 hb t ht;unfold Qku;unfold Zz;cases hu:P.underlying t with
  |none=>rw[hu] at hbt;cases hbt
  |some d=>
   rw[hu] at hbt;cases d with
   |bool=>
    obtain⟨b,rfl,_⟩:=DataW.trod_bool hu h;exact⟨[.bool b],⟨b,rfl⟩,.cons (by simp[Rel]) .nil,rfl,hβ.one _⟩
   |int k=>
    obtain⟨m,rfl,_,hw⟩:=DataW.trod_int hu h;exact⟨[.int k m],⟨m,rfl,hw⟩,.cons (by simp[Rel]) .nil,rfl,hβ.one _⟩
   |string=>
    obtain⟨s,rfl,_,hs⟩:=DataW.trod_string hu h;refine⟨[.str s.data.toList],⟨s.data.toList,rfl,by rw[<-Lib.size_eq];exact hs⟩,.cons (by simp[Rel]) .nil,rfl,hβ.one _⟩
   |slice e=>
    have he:e∈book:=by simpa using hbt
    rcases DataW.trod_slice hu h with⟨rfl,_⟩|⟨a,len,cap,elems,rest,n,hn,rfl,hx,_,hlc,hcm,hel,hread,_⟩
    . exact⟨[.nS],.inl rfl,.cons (by simp[Rel]) .nil,rfl,hβ.one _⟩
    . cases hn;obtain⟨ys,vs,h1,h2,h3,h4,h5,h6,h7⟩:=Qkv (P:=P) (W:=W) (β:=β) (n:=fuel) (c:=P.cellsOf e) (e:=e) (a:=a) (ds:=elems.map (·.1)) len (by simp;omega) (fun i d hi hd=>by
       have:=hread i hi;have hx:elems[i]?=some elems[i]:=Zpk (by omega);rw[hx] at this;have ed:d=elems[i].1:=by rw[Zsd,hx] at hd;simpa using hd.symm
       cases hc:W.cells? 0 (a.add (i*P.cellsOf e)) (P.cellsOf e) with
       |none=>rw[hc] at this;cases this
       |some cs=>rw[hc] at this;exact⟨cs,rfl,ed▸ih e cs _ he this⟩)
      refine⟨[.iS ys.flatten ys.length false],.inr ⟨ys,rfl,by omega,h2⟩,.cons ?_ .nil,rfl,?_⟩
      . simp only[Rel];exact⟨a,cap,vs,by rw[h1],by omega,(fun h=>by cases h),Q9t h6,h3,h4⟩
      . rw[hx];have e1:(elems.map (·.1)).take len=elems.map (·.1):=Zr8 (by simp;omega);rw[e1] at h7;have:=hβ.slice (elems.map (·.1)) (rest.map (·.1));show(wtL ys.flatten+1)+0<=β (.slice (elems.map (·.1)) (rest.map (·.1)));omega
   |struct fs=>
    simp only[Zqf,Zqt] at hbt;obtain⟨xs,n,hn,hx,hl,hxl,hread⟩:=DataW.trod_struct hu h;cases hn;obtain⟨ys,g1,g2,g3,g4⟩:=Qgg (P:=P) (W:=W) (β:=β) (n:=fuel) (cs:=cs) fs.toList (xs.map (·.1)) 0 (by rw[hl];exact hbt.1) (by simp[hxl]) (fun i f d hi hd=>by
     have hi' :fs[i]?=some f:=by simpa using hi
     have hf:f∈fs.toList:=Zrl.2 ⟨i,hi⟩;have hil:i<fs.size:=(Zpt.1 hi').1;have:=hread i f hi';have hx:xs[i]?=some xs[i]:=Zpk (by omega);rw[hx] at this;have ed:d=xs[i].1:=by rw[Zsd,hx] at hd;simpa using hd.symm
     exact ed▸ih _ _ _ (by simpa using hbt.2 f hf) this)
    refine⟨ys,g1,by simpa using g2,g3,?_⟩;rw[hx];exact Zpq g4 (hβ.agg _)
   |array k e=>
    simp only[Zqf,beq_iff_eq] at hbt;obtain⟨xs,n,hn,hx,hl,hxl,hread⟩:=DataW.trod_array hu h;cases hn;obtain⟨ys,g1,g2,g3,g4⟩:=Qgi (P:=P) (W:=W) (β:=β) (n:=fuel) (c:=P.cellsOf e) (e:=e) (cs:=cs) k 0 (xs.map (·.1)) (by simp[hxl]) (fun j d hd=>by
     have hj:j<xs.length:=by have:=(Zq0.1 hd).1;simpa using this
     have:=hread j (by omega);have hx:xs[j]?=some xs[j]:=Zpk (by omega);rw[hx] at this;have ed:d=xs[j].1:=by rw[Zsd,hx] at hd;simpa using hd.symm
     rw[Zpw]
     exact ed▸ih _ _ _ (by simpa using hbt.2) this) (by rw[hl,hbt.1];simp)
    refine⟨ys,g1,by simpa using g2,g3,?_⟩;rw[hx];exact Zpq g4 (hβ.agg _)
   |_=>cases hbt
theorem Qqz(hβ:Bulk β)(hb:Q2r P book=true):∀{ts:List TypeId} {vs:List Value} {ds:List (DataW H)} {ps:List MemPlace},(∀t∈ts,t∈book)->
 DataW.TrodAll enc P W 0 (fun _=>true) true ts vs ds ps->(∀(j:Nat) t v,ts[j]?=some t->vs[j]?=some v->∃w r base,Value.okWide P w r base t v)->
 ∃xs,Qlg P ts xs/\Qe (Qle P W) xs vs/\wtL xs<=(ds.map β).sum
 |[],[],[],_,_,_,_=>⟨[],rfl,.nil,Zpp _⟩
 |[],_::_,_,_,_,h,_=>h.elim
 |[],[],_::_,_,_,h,_=>h.elim
 |_::_,[],_,_,_,h,_=>h.elim
 |_::_,_::_,[],_,_,h,_=>h.elim
 |t::ts,v::vs,d::ds,ps,ht,h,hok=>by
  obtain⟨p,q,⟨fuel,h1⟩,h2,_⟩:=h;obtain⟨ys,g1,g2,g3,g4⟩:=Qg7 hβ hb fuel t _ _ (ht t (by simp)) h1;obtain⟨xs,k1,k2,k3⟩:=Qqz hβ hb (fun u hu=>ht u (by simp[hu])) h2 (fun j u x hu hx=>hok (j+1) u x hu hx);obtain⟨w,r,base,hw⟩:=hok 0 t v rfl rfl;have hsum:((d::ds).map β).sum=β d+(ds.map β).sum:=by rw[Zp4,List.sum_cons]
  rw[hsum];by_cases hagg:∃cs:Array Value,v= .agg cs/\(match P.underlying t with|some (.struct _)|some (.array _ _)=>True|_=>False)
  . obtain⟨cs,rfl,hm⟩:=hagg;refine⟨.agg ys::xs,⟨fuel,_,_,?_,k1,rfl⟩,.cons ?_ k2,?_⟩
    . unfold Qfs;split
      . exact⟨ys,rfl,g1⟩
      . exact⟨ys,rfl,g1⟩
      . rename_i q1 q2;split at hm
        . rename_i fs hh;exact absurd hh (q1 fs)
        . rename_i k e hh;exact absurd hh (q2 k e)
        . exact hm.elim
    . simp only[Rel];exact⟨cs.toList,rfl,g2⟩
    . show wtL ys+wtL xs<=_;have g4' :wtL ys<=β d:=g4;omega
  . have hne:∀fs,P.underlying t≠some (.struct fs):=by
     intro fs hu;unfold Value.okWide at hw;rw[hu] at hw;obtain⟨cs,rfl,_⟩:=hw;exact hagg ⟨cs,rfl,by rw[hu];trivial⟩
    have hne2:∀k e,P.underlying t≠some (.array k e):=by intro k e hu;unfold Value.okWide at hw;rw[hu] at hw;obtain⟨cs,rfl,_⟩:=hw;exact hagg ⟨cs,rfl,by rw[hu];trivial⟩
    have hv:v.cells.toList=[v]:=by
     cases v with
     |agg cs=>
      exfalso;have hbt:=Zqt.1 hb t (ht t (by simp));cases hu:P.underlying t with
      |none=>rw[hu] at hbt;cases hbt
      |some d=>cases d<;>first
       |(rw[hu] at hbt;cases hbt;done)
       |exact hne _ hu
       |exact hne2 _ _ hu
       |(simp[Value.okWide,hu,Cell.okWide,Cell.ok] at hw;done)
     |_=>rfl
    rw[hv] at g2;cases ys with
    |nil=>exact absurd g2 (by simp[Qe])
    |cons y r=>
     obtain⟨v',r',e,q1,q2⟩:=Qe.cons_iff.1 g2;cases e;cases r with
     |cons z r=>exact absurd q2 (by intro h;have:=h.length;simp at this)
     |nil=>
      refine⟨y::xs,⟨fuel,_,_,?_,k1,rfl⟩,.cons q1 k2,?_⟩
      case refine_2=>have g4' :wt y+0<=β d:=g4;show wt y+wtL xs<=_;omega
      unfold Qfs;split
      . rename_i fs hh;exact absurd hh (hne fs)
      . rename_i k e hh;exact absurd hh (hne2 k e)
      . exact g1
end
end Go.AM
end
section
namespace Go.AM.BM
section
variable {P : Program} {E : Env} {B : Nat} {F : Nat -> Nat -> Prop} {H : Heap}
theorem Qf4{f:FuncId}{args:Array Value}{w:World}{v:V}{x:Option (Nat×Nat×O)}(one:H.length=1)(h:AM.Invokes P f args w (AM.Answer B F H E (.ret v) (wr H x))):Invokes P f args w (Answer B F H E (.ret v) (wr H x)):=by
 have key:∀e w',AM.Answer B F H E (.ret v) (wr H x) e w' ->Answer B F H E (.ret v) (wr H x) e w' :=by rintro e w' ⟨E',h1,h2,h3,h4,h5⟩;rw[one] at h4;exact⟨E',h1,h2,h3,h4,by rw[AM.wr_length];exact one⟩
 rcases h with⟨u,w',h1,h2⟩|⟨j,h1,h2⟩
 . exact .inl ⟨u,w',h1,key _ _ h2⟩
 . exact .inr ⟨j,h1,h2.mono key⟩
theorem Qih{G G' :Get}(h:GLe G G'){x:V}{l:List UInt8}(e:bytesV G x=some l):bytesV G' x=some l:=by
 unfold bytesV at e⊢;split at e
 . exact e
 . rename_i y hy;cases hs:Qj G 1 x with
   |none=>rw[hs] at e;cases e
   |some q=>
    rw[hs] at e;have hs' :Qj G' 1 x=some q:=by exact B7 h hs
    rw[hs'];exact e
theorem Qo2(nm:Nat)(G G' :Get)(args:List V)(v:V)(w:Option (Nat×Nat×O))(h:GLe G G')(e:K9 0 (some nm) G args=some (v,w)):
 K9 0 (some nm) G' args=some (v,w)/\∀x∈w.toList,(∃y,G x.1 x.2.1=some y)\/(x.1=0/\x.2.1=nm):=by
 unfold K9 at e⊢;split at e
 case h_2=>cases e
 rename_i y c;split at e
 case h_2=>cases e
 rename_i l hl;cases e;exact⟨by simp only[Qih h hl],fun x hx=>by cases hx⟩
theorem Qkj(nm:Nat)(G G' :Get)(args:List V)(v:V)(w:Option (Nat×Nat×O))(h:GLe G G')(e:Ks 0 (some nm) G args=some (v,w)):
 Ks 0 (some nm) G' args=some (v,w)/\∀x∈w.toList,(∃y,G x.1 x.2.1=some y)\/(x.1=0/\x.2.1=nm):=by
 unfold Ks at e⊢;split at e
 case h_2=>cases e
 rename_i y c;split at e
 case h_2=>cases e
 rename_i l hl;cases e;exact⟨by simp only[Qih h hl],fun x hx=>by cases hx⟩
theorem Ql2(nm:Nat)(G G' :Get)(args:List V)(v:V)(w:Option (Nat×Nat×O))(h:GLe G G')(e:Kq 0 (some nm) G args=some (v,w)):
 Kq 0 (some nm) G' args=some (v,w)/\∀x∈w.toList,(∃y,G x.1 x.2.1=some y)\/(x.1=0/\x.2.1=nm):=by
 unfold Kq at e⊢;split at e
 case h_2=>cases e
 rename_i y z;split at e
 case h_2=>cases e
 rename_i l r hl hr;cases e;exact⟨by simp only[Qih h hl,Qih h hr],fun x hx=>by cases hx⟩
theorem Qr5(nm:Nat)(G G' :Get)(args:List V)(v:V)(w:Option (Nat×Nat×O))(h:GLe G G')(hn:G' 0 nm=G 0 nm)(e:Qc7 0 (some nm) G args=some (v,w)):
 Qc7 0 (some nm) G' args=some (v,w)/\∀x∈w.toList,(∃y,G x.1 x.2.1=some y)\/(x.1=0/\x.2.1=nm):=by
 unfold Qc7 at e⊢;split at e
 case h_2=>cases e
 rename_i n d he;cases he;split at e
 case h_2=>cases e
 rename_i hg;split at e
 case isFalse=>cases e
 rename_i hc;cases e;refine⟨by simp only[hn,hg];rw[if_pos hc],fun x hx=>?_⟩;simp only[Option.toList,Zp9] at hx;subst hx;exact .inr ⟨rfl,rfl⟩
end
end Go.AM.BM
end
section
namespace Go.AM.BM
def NV.toL(t:NV):List V:=[t.x0,t.x1,t.x2,t.x3,t.x4,t.x5,t.x6,t.x7,t.x8,t.x9,t.x10,t.x11,t.x12,t.x13,t.x14,t.x15,t.x16,t.x17,t.x18,t.x19,t.x20,t.x21,t.x22,t.x23,t.x24,t.x25,t.x26,t.x27,t.x28,t.x29,t.x30,t.x31]
def NN.toL(t:NN):List NV:=[t.x0,t.x1,t.x2,t.x3,t.x4,t.x5,t.x6,t.x7,t.x8,t.x9,t.x10,t.x11,t.x12,t.x13,t.x14,t.x15,t.x16,t.x17,t.x18,t.x19,t.x20,t.x21,t.x22,t.x23,t.x24,t.x25,t.x26,t.x27,t.x28,t.x29,t.x30,t.x31]
theorem Zdl(d:Box (NV->V))(t:NV):∀i,i<32->(selV.getD i d).f t=t.toL.getD i .bad
 |0,_=>rfl
 |1,_=>rfl
 |2,_=>rfl
 |3,_=>rfl
 |4,_=>rfl
 |5,_=>rfl
 |6,_=>rfl
 |7,_=>rfl
 |8,_=>rfl
 |9,_=>rfl
 |10,_=>rfl
 |11,_=>rfl
 |12,_=>rfl
 |13,_=>rfl
 |14,_=>rfl
 |15,_=>rfl
 |16,_=>rfl
 |17,_=>rfl
 |18,_=>rfl
 |19,_=>rfl
 |20,_=>rfl
 |21,_=>rfl
 |22,_=>rfl
 |23,_=>rfl
 |24,_=>rfl
 |25,_=>rfl
 |26,_=>rfl
 |27,_=>rfl
 |28,_=>rfl
 |29,_=>rfl
 |30,_=>rfl
 |31,_=>rfl
 |i+32,h=>by omega
theorem Zbx(d:Box (NV->V->NV))(t:NV)(v:V):∀i,i<32->((updV.getD i d).f t v).toL=t.toL.set i v
 |0,_=>rfl
 |1,_=>rfl
 |2,_=>rfl
 |3,_=>rfl
 |4,_=>rfl
 |5,_=>rfl
 |6,_=>rfl
 |7,_=>rfl
 |8,_=>rfl
 |9,_=>rfl
 |10,_=>rfl
 |11,_=>rfl
 |12,_=>rfl
 |13,_=>rfl
 |14,_=>rfl
 |15,_=>rfl
 |16,_=>rfl
 |17,_=>rfl
 |18,_=>rfl
 |19,_=>rfl
 |20,_=>rfl
 |21,_=>rfl
 |22,_=>rfl
 |23,_=>rfl
 |24,_=>rfl
 |25,_=>rfl
 |26,_=>rfl
 |27,_=>rfl
 |28,_=>rfl
 |29,_=>rfl
 |30,_=>rfl
 |31,_=>rfl
 |i+32,h=>by omega
theorem Q3b(d:Box (NN->NV))(e:NV)(t:NN):∀i,i<32->(selN.getD i d).f t=t.toL.getD i e
 |0,_=>rfl
 |1,_=>rfl
 |2,_=>rfl
 |3,_=>rfl
 |4,_=>rfl
 |5,_=>rfl
 |6,_=>rfl
 |7,_=>rfl
 |8,_=>rfl
 |9,_=>rfl
 |10,_=>rfl
 |11,_=>rfl
 |12,_=>rfl
 |13,_=>rfl
 |14,_=>rfl
 |15,_=>rfl
 |16,_=>rfl
 |17,_=>rfl
 |18,_=>rfl
 |19,_=>rfl
 |20,_=>rfl
 |21,_=>rfl
 |22,_=>rfl
 |23,_=>rfl
 |24,_=>rfl
 |25,_=>rfl
 |26,_=>rfl
 |27,_=>rfl
 |28,_=>rfl
 |29,_=>rfl
 |30,_=>rfl
 |31,_=>rfl
 |i+32,h=>by omega
theorem Zd6(d:Box (NN->NV->NN))(t:NN)(v:NV):∀i,i<32->((updN.getD i d).f t v).toL=t.toL.set i v
 |0,_=>rfl
 |1,_=>rfl
 |2,_=>rfl
 |3,_=>rfl
 |4,_=>rfl
 |5,_=>rfl
 |6,_=>rfl
 |7,_=>rfl
 |8,_=>rfl
 |9,_=>rfl
 |10,_=>rfl
 |11,_=>rfl
 |12,_=>rfl
 |13,_=>rfl
 |14,_=>rfl
 |15,_=>rfl
 |16,_=>rfl
 |17,_=>rfl
 |18,_=>rfl
 |19,_=>rfl
 |20,_=>rfl
 |21,_=>rfl
 |22,_=>rfl
 |23,_=>rfl
 |24,_=>rfl
 |25,_=>rfl
 |26,_=>rfl
 |27,_=>rfl
 |28,_=>rfl
 |29,_=>rfl
 |30,_=>rfl
 |31,_=>rfl
 |i+32,h=>by omega
theorem Zen(d:Box (TM->V))(t:TM):∀i,i<32->(selA.getD i d).f t=t.a.toL.getD i .bad
 |0,_=>rfl
 |1,_=>rfl
 |2,_=>rfl
 |3,_=>rfl
 |4,_=>rfl
 |5,_=>rfl
 |6,_=>rfl
 |7,_=>rfl
 |8,_=>rfl
 |9,_=>rfl
 |10,_=>rfl
 |11,_=>rfl
 |12,_=>rfl
 |13,_=>rfl
 |14,_=>rfl
 |15,_=>rfl
 |16,_=>rfl
 |17,_=>rfl
 |18,_=>rfl
 |19,_=>rfl
 |20,_=>rfl
 |21,_=>rfl
 |22,_=>rfl
 |23,_=>rfl
 |24,_=>rfl
 |25,_=>rfl
 |26,_=>rfl
 |27,_=>rfl
 |28,_=>rfl
 |29,_=>rfl
 |30,_=>rfl
 |31,_=>rfl
 |i+32,h=>by omega
theorem Zb0(d:Box (TM->V->TM))(t:TM)(v:V):∀i,i<32->((updA.getD i d).f t v).a.toL=t.a.toL.set i v
 |0,_=>rfl
 |1,_=>rfl
 |2,_=>rfl
 |3,_=>rfl
 |4,_=>rfl
 |5,_=>rfl
 |6,_=>rfl
 |7,_=>rfl
 |8,_=>rfl
 |9,_=>rfl
 |10,_=>rfl
 |11,_=>rfl
 |12,_=>rfl
 |13,_=>rfl
 |14,_=>rfl
 |15,_=>rfl
 |16,_=>rfl
 |17,_=>rfl
 |18,_=>rfl
 |19,_=>rfl
 |20,_=>rfl
 |21,_=>rfl
 |22,_=>rfl
 |23,_=>rfl
 |24,_=>rfl
 |25,_=>rfl
 |26,_=>rfl
 |27,_=>rfl
 |28,_=>rfl
 |29,_=>rfl
 |30,_=>rfl
 |31,_=>rfl
 |i+32,h=>by omega
theorem updA_b(d:Box (TM->V->TM))(t:TM)(v:V):∀i,i<32->((updA.getD i d).f t v).b=t.b
 |0,_=>rfl
 |1,_=>rfl
 |2,_=>rfl
 |3,_=>rfl
 |4,_=>rfl
 |5,_=>rfl
 |6,_=>rfl
 |7,_=>rfl
 |8,_=>rfl
 |9,_=>rfl
 |10,_=>rfl
 |11,_=>rfl
 |12,_=>rfl
 |13,_=>rfl
 |14,_=>rfl
 |15,_=>rfl
 |16,_=>rfl
 |17,_=>rfl
 |18,_=>rfl
 |19,_=>rfl
 |20,_=>rfl
 |21,_=>rfl
 |22,_=>rfl
 |23,_=>rfl
 |24,_=>rfl
 |25,_=>rfl
 |26,_=>rfl
 |27,_=>rfl
 |28,_=>rfl
 |29,_=>rfl
 |30,_=>rfl
 |31,_=>rfl
 |i+32,h=>by omega
theorem Qzz{i:Nat}(h:i<32)(T:TM):(gC i).f T=T.a.toL.getD i .bad:=by
 have:Nat.blt i 32=true:=by rw[Nat.blt_eq];exact h
 simp only[gC,this,cond_true];exact Zen _ T i h
theorem Qyl{i:Nat}(h:¬i<32)(h2:i<1056)(T:TM):(gC i).f T=(T.b.toL.getD ((i-32)/32) Xk).toL.getD ((i-32)%32) .bad:=by
 have:Nat.blt i 32=false:=by rw[Zse];intro e;rw[Nat.blt_eq] at e;exact h e
 simp only[gC,this,cond_false];rw[Q3b _ Xk _ _ (by omega),Zdl _ _ _ (by omega)]
theorem sC_hi{i:Nat}(h:¬i<32)(T:TM)(v:V):(sC i).f T v=⟨T.a,(updN.getD ((i-32)/32) ⟨fun t _=>t⟩).f T.b ((updV.getD ((i-32)%32) ⟨fun t _=>t⟩).f ((selN.getD ((i-32)/32) ⟨fun t=>t.x0⟩).f T.b) v)⟩:=by
 have:Nat.blt i 32=false:=by rw[Zse];intro e;rw[Nat.blt_eq] at e;exact h e
 simp only[sC,this,cond_false]
theorem sC_lo{i:Nat}(h:i<32)(T:TM)(v:V):(sC i).f T v=(updA.getD i ⟨fun t _=>t⟩).f T v:=by
 have:Nat.blt i 32=true:=by rw[Nat.blt_eq];exact h
 simp only[sC,this,cond_true]
theorem NV.toL_length(t:NV):t.toL.length=32:=rfl
theorem NN.toL_length(t:NN):t.toL.length=32:=rfl
theorem Qk9{α:Type}(l:List α)(i j:Nat)(v d:α)(hi:i<l.length):(l.set i v).getD j d=if j=i then v else l.getD j d:=by
 simp only[List.getD,Zqy];by_cases e:i=j
 . subst e;simp[hi]
 . rw[if_neg e,if_neg (Ne.symm e)]
theorem gC_sC{i j:Nat}(hi:i<1056)(hj:j<1056)(T:TM)(v:V):(gC j).f ((sC i).f T v)=if j=i then v else(gC j).f T:=by
 by_cases a:i<32
 . rw[sC_lo a];by_cases b:j<32
   . rw[Qzz b,Qzz b,Zb0 _ _ _ _ a,Qk9 _ _ _ _ _ (by rw[NV.toL_length];exact a)]
   . rw[Qyl b hj,Qyl b hj,updA_b _ _ _ _ a,if_neg (by omega)]
 . rw[sC_hi a];by_cases b:j<32
   . rw[Qzz b,Qzz b,if_neg (by omega)]
   . rw[Qyl b hj,Qyl b hj,Zd6 _ _ _ _ (by omega),Qk9 _ _ _ _ _ (by rw[NN.toL_length];omega)];by_cases e:(j-32)/32=(i-32)/32
     . rw[if_pos e,Zbx _ _ _ _ (by omega),Qk9 _ _ _ _ _ (by rw[NV.toL_length];omega),Q3b _ Xk _ _ (by omega),e];by_cases e2:(j-32)%32=(i-32)%32
       . rw[if_pos e2,if_pos (by omega)]
       . rw[if_neg e2,if_neg (by omega)]
     . rw[if_neg e,if_neg (by omega)]
structure RT(n:Nat)(T:TM)(t:List V):Prop where
 len:t.length=n
 le:n<=1056
 get:∀i,i<n->(gC i).f T=t.getD i .bad
theorem Qrj{α:Type}(n i:Nat)(x:α):(List.replicate n x).getD i x=x:=by simp only[List.getD,List.getElem?_replicate];split<;>rfl
theorem gC_emp(i:Nat)(h:i<1056):(gC i).f emp= .bad:=by
 have e2:Xk.toL=List.replicate 32 .bad:=rfl;by_cases a:i<32
 . rw[Qzz a];show Xk.toL.getD i .bad= .bad;rw[e2,Qrj]
 . rw[Qyl a h];have e:emp.b.toL=List.replicate 32 Xk:=rfl;rw[e,Qrj,e2,Qrj]
theorem RT.put{n:Nat}{T:TM}{t:List V}(R:RT n T t)(dst:Option Nat)(v:V):RT n ((cP n dst).f T v) (Qs t dst v):=by
 cases dst with
 |none=>exact R
 |some i=>
  simp only[cP,Qs];by_cases h:i<n
  . have hb:Nat.blt i n=true:=by rw[Nat.blt_eq];exact h
    rw[hb];refine⟨by rw[Zqx];exact R.len,R.le,fun j hj=>?_⟩;have hn:=R.le;simp only[cond_true];rw[gC_sC (by omega) (by omega),Qk9 _ _ _ _ _ (by rw[R.len];exact h),R.get j hj]
  . have hb:Nat.blt i n=false:=by rw[Zse];intro e;rw[Nat.blt_eq] at e;exact h e
    rw[hb];rw[List.set_eq_of_length_le (by rw[R.len];omega)];exact R
theorem RT.rho{n:Nat}{T:TM}{t:List V}(R:RT n T t)(x:Operand):(cR n x).f T=AM.rho t x:=by
 cases x with
 |tmp i=>
  simp only[cR,AM.rho];by_cases h:i<n
  . have hb:Nat.blt i n=true:=by rw[Nat.blt_eq];exact h
    rw[hb];exact R.get i h
  . have hb:Nat.blt i n=false:=by rw[Zse];intro e;rw[Nat.blt_eq] at e;exact h e
    have h' :n<=i:=Nat.le_of_not_lt h;rw[hb];simp only[cond_false,List.getD];rw[Zpn (by rw[R.len];exact h')];rfl
 |const v=>rfl
 |global g=>rfl
 |func f=>rfl
theorem RT.rhoF{n:Nat}{T:TM}{t:List V}(R:RT n T t):(fun x=>(cR n x).f T)=AM.rho t:=funext R.rho
theorem Qug(n:Nat)(T:TM):∀l:List Operand,(cL n l).f T=l.map fun x=>(cR n x).f T
 |[]=>rfl
 |x::l=>by
  have:=Qug n T l;show(cR n x).f T::(cL n l).f T=_;rw[this];rfl
theorem toL_eq{n:Nat}{T:TM}{t:List V}(R:RT n T t):toL T n 0=t:=by
 have:∀m i,toL T m i=(List.range' i m).map fun j=>(gC j).f T:=by
  intro m
  induction m with
  |zero=>intro i;rfl
  |succ m ih=>
   intro i;show(gC i).f T::toL T m (Nat.succ i)=_;rw[ih];simp[Zq3]
 rw[this];apply Zqz;intro i;by_cases h:i<n
 . simp only[Zsd,List.getElem?_range' h,Zpl,Zpw,Nat.one_mul];rw[R.get i h,List.getD,Zpk (by rw[R.len];exact h)];rfl
 . rw[Zpn (by simp;omega),Zpn (by rw[R.len];omega)]
theorem Q3p{n:Nat}(hn:n<=1056):∀(l:List V) (i:Nat) (T:TM),i+l.length<=n->∀j,j<n->(gC j).f (ofL l i T)=if i<=j/\j<i+l.length then l.getD (j-i) .bad else(gC j).f T
 |[],i,T,_,j,_=>by
  show(gC j).f T=_;rw[if_neg (by simp only[Zq4];omega)]
 |v::l,i,T,h,j,hj=>by
  simp only[Zq2] at h;show(gC j).f (ofL l (Nat.succ i) ((sC i).f T v))=_;rw[Q3p hn l (Nat.succ i) _ (by omega) j hj,gC_sC (by omega) (by omega)];by_cases e:j=i
  . subst e;rw[if_neg (by omega),if_pos rfl,if_pos (by simp)];simp
  . by_cases c:i<=j/\j<i+(l.length+1)
    . rw[if_pos (by omega),if_pos (by simpa using c)];have:j-i=(j-Nat.succ i)+1:=by omega
      rw[this];rfl
    . rw[if_neg (by omega),if_neg e,if_neg (by simpa using c)]
theorem RT.args{n:Nat}(hn:n<=1056)(l:List V)(h:l.length<=n):RT n (ofL l 0 emp) (l++List.replicate (n-l.length) .bad):=by
 refine⟨by simp;omega,hn,fun i hi=>?_⟩;rw[Q3p hn l 0 emp (by omega) i hi];by_cases c:i<l.length
 . rw[if_pos (by omega)];simp[List.getD,Zre c]
 . rw[if_neg (by omega),gC_emp i (by omega)];simp only[List.getD,Zqn (by omega:l.length<=i),List.getElem?_replicate];split<;>rfl
theorem RT.ofT{n:Nat}(hn:n<=1056)(l:List V)(h:l.length=n):RT n (ofL l 0 emp) l:=by have:=RT.args hn l (by omega);rwa[h,Nat.sub_self,List.replicate_zero,Zqd] at this
theorem Qoe{α:Type}(j:Nat)(a b c d:α):Qzv j a b c d=if(j/2)%2=0 then(if j%2=0 then a else b) else(if j%2=0 then c else d):=by
 have h1:Nat.land j (nat_lit 1)=j%2:=Nat.and_one_is_mod j;have h2:Nat.land (Nat.shiftRight j (nat_lit 1)) (nat_lit 1)=(j/2)%2:=by have:Nat.shiftRight j 1=j/2:=rfl;show Nat.land (Nat.shiftRight j 1) 1=_;rw[this];exact Nat.and_one_is_mod _
 unfold Qzv;rw[h1,h2];have e:∀(m:Nat) (x y:α),Bool.rec (motive:=fun _=>α) x y (Nat.beq m (nat_lit 0))=if m=0 then y else x:=by intro m x y;cases m<;>rfl
 rw[e,e,e]
theorem Tr.get_node(o:Option O)(a b c d:Tr)(k:Nat):(Tr.node o a b c d).get k=match k with
 |0=>o
 |j+1=>Qzv j (a.get) (b.get) (c.get) (d.get) (j/4):=by
 cases k with
 |zero=>rfl
 |succ j=>
  show Qzv j a.get b.get c.get d.get (Nat.shiftRight j (nat_lit 2))=_;have hs:Nat.shiftRight j (nat_lit 2)=j/4:=by show Nat.shiftRight j 2=_;have:Nat.shiftRight j 2=j/2/2:=rfl;rw[this,Nat.div_div_eq_div_mul]
  rw[hs]
theorem Tr.on_get(t:Tr)(k:Nat):t.get k=t.on fun o a b c d=>(Tr.node o a b c d).get k:=by
 cases t with
 |nil=>
  show none=(Tr.node none .nil .nil .nil .nil).get k;rw[Tr.get_node];cases k with
  |zero=>rfl
  |succ j=>simp only[Qoe];repeat' split
           all_goals rfl
 |node o a b c d=>rfl
theorem Tr.get_set:∀(n:Nat) (t:Tr) (k:Nat) (o:O),k<n->∀k',(Tr.set n t k o).get k' =if k' =k then some o else t.get k'
 |0,_,_,_,h,_=>by omega
 |n+1,t,k,x,h,k' =>by
  have main:∀(o:Option O) (a b c d:Tr),(Nat.rec (motive:=fun _=>Tr) (.node (some x) a b c d)
   (fun j _=>Qzv j (Tr.node o (Tr.set n a (Nat.shiftRight j (nat_lit 2)) x) b c d) (.node o a (Tr.set n b (Nat.shiftRight j (nat_lit 2)) x) c d) (.node o a b (Tr.set n c (Nat.shiftRight j (nat_lit 2)) x) d) (.node o a b c (Tr.set n d (Nat.shiftRight j (nat_lit 2)) x))) k:Tr).get k' =
     if k' =k then some x else(Tr.node o a b c d).get k' :=by
   intro o a b c d;cases k with
   |zero=>
    show(Tr.node (some x) a b c d).get k' =_;rw[Tr.get_node,Tr.get_node];cases k' with
    |zero=>rfl
    |succ j=>simp
   |succ j=>
    show(Qzv j (Tr.node o (Tr.set n a (Nat.shiftRight j (nat_lit 2)) x) b c d) (.node o a (Tr.set n b (Nat.shiftRight j (nat_lit 2)) x) c d) (.node o a b (Tr.set n c (Nat.shiftRight j (nat_lit 2)) x) d) (.node o a b c (Tr.set n d (Nat.shiftRight j (nat_lit 2)) x))).get k' =_;have hs:Nat.shiftRight j (nat_lit 2)=j/4:=by show Nat.shiftRight j 2=_;have:Nat.shiftRight j 2=j/2/2:=rfl;rw[this,Nat.div_div_eq_div_mul]
    rw[hs];have hlt:j/4<n:=by omega
    have ih:=fun(t:Tr)=>Tr.get_set n t (j/4) x hlt;cases k' with
    |zero=>
     simp only[Qoe]
     repeat' split
     all_goals first|rfl|(exfalso;omega)|skip
     all_goals simp[Tr.get_node]
    |succ j' =>
     simp only[Qoe]
     (repeat' split)<;>(try simp only[Tr.get_node,Qoe])<;>(repeat' split)<;>(try simp only[ih])<;>(repeat' split)<;>first|rfl|(exfalso;omega)
  cases t with
  |nil=>
   exact(main none .nil .nil .nil .nil).trans (by rw[Tr.on_get .nil k'];rfl)
  |node o a b c d=>exact main o a b c d
def RH(F:FH)(H:Heap):Prop:=∃fr,H=[fr]/\(∀s,Xf fr s=F.tr.get s)/\Qho fr=F.next
theorem Qye:∀(fr:Frame) (s:Nat),Qho fr<=s->Xf fr s=none
 |[],_,_=>rfl
 |(k,o)::r,s,h=>by
  simp only[Qho] at h;simp only[Xf];rw[if_neg (by omega)];exact Qye r s (by omega)
theorem RH.get{F:FH}{H:Heap}(h:RH F H):Xo F=Qd H:=by
 obtain⟨fr,rfl,h1,_⟩:=h;funext f s;cases f with
 |zero=>exact(h1 s).symm
 |succ f=>simp[Xo,Qd]
theorem RH.tr{F:FH}{H:Heap}(h:RH F H)(s:Nat):F.tr.get s=Qd H 0 s:=by rw[<-h.get];rfl
theorem RH.next{F:FH}{H:Heap}(h:RH F H):Q5 H=F.next:=by obtain⟨fr,rfl,_,h2⟩:=h;exact h2
theorem RH.fresh{F:FH}{H:Heap}(h:RH F H):F.tr.get F.next=none:=by obtain⟨fr,rfl,h1,h2⟩:=h;rw[<-h1,<-h2];exact Qye fr _ (Zpp _)
theorem RH.set{F:FH}{H:Heap}(h:RH F H)(s:Nat)(o:O):RH (Qhg F s o) (hset H 0 s o):=by
 obtain⟨fr,rfl,h1,h2⟩:=h;refine⟨J3 fr s o,rfl,fun s' =>?_,?_⟩
 . rw[Qas,h1];exact(Tr.get_set (Nat.succ s) F.tr s o (Nat.lt_succ_self s) s').symm
 . rw[Qf9,h2];simp only[Qhg];cases e:Nat.ble (Nat.succ s) F.next with
   |true=>have:=Zru e;simp only;omega
   |false=>
    have:¬Nat.succ s<=F.next:=fun h=>by rw[Zsf h] at e;cases e
    simp only;omega
theorem RH.wr{F:FH}{H:Heap}(h:RH F H)(w:Option (Nat×Nat×O)):RH (wrF F w) (AM.wr H w):=by
 match w with
 |none=>exact h
 |some (0,s,o)=>exact h.set s o
 |some (f+1,s,o)=>
  obtain⟨fr,rfl,h1,h2⟩:=h;exact⟨fr,by simp[AM.wr,hset],h1,h2⟩
theorem RH.wrL:∀(ws:List (Nat×Nat×O)) {F:FH} {H:Heap},RH F H->RH (wrLF F ws) (BM.wrL H ws)
 |[],_,_,h=>h
 |(f,s,o)::r,F,H,h=>by
  have:=h.wr (some (f,s,o));exact RH.wrL r this
end Go.AM.BM
end
section
namespace Go.AM.BM
def RO(n:Nat):FO->Out->Prop
 | .no,_=>True
 | .nrm T F,o=>∃t H,o=some (.normal,t,H)/\RT n T t/\RH F H
 | .exi i T F,o=>∃t H,o=some (.exit i,t,H)/\RT n T t/\RH F H
 | .ret T F,o=>∃t H,o=some (.ret,t,H)/\RT n T t/\RH F H
 | .pan v T F,o=>∃t H,o=some (.panic v,t,H)/\RT n T t/\RH F H
def RR:FR->Option (Rt×Heap)->Prop
 | .no,_=>True
 | .ret v F,o=>∃H,o=some (.ret v,H)/\RH F H
 | .pan v F,o=>∃H,o=some (.pan v,H)/\RH F H
def RC(cc:FC)(C:Call):Prop:=∀f args F H,RH F H->RR (cc f args F) (C f args H)
def Sub{α:Type}(no x y:α):Prop:=x=no\/x=y
theorem Q4p(k:V->FO):Qjh none k= .no:=rfl
theorem Qkt:∀(l:List V) (i:Nat),Q2c l i=l[i]?
 |[],i=>rfl
 |x::l,0=>rfl
 |x::l,i+1=>by
  show Q2c l i=_;rw[Qkt l i];rfl
theorem Q31:∀(l:List V) (i:Nat) (v:V),setV l i v=l.set i v
 |[],i,v=>rfl
 |x::l,0,v=>rfl
 |x::l,i+1,v=>by
  show x::setV l i v=_;rw[Q31 l i v];rfl
theorem Q02(l:List V)(i:Nat)(v:V)(h:i<l.length):l.set i v=splice l i [v]:=by
 induction l generalizing i with
 |nil=>simp at h
 |cons x l ih=>
  cases i with
  |zero=>simp[splice]
  |succ i=>
   simp only[Zq2] at h;simp only[List.set_cons_succ,ih i (by omega),splice];simp
theorem Qly{R:Type}(o:Option O)(k:List V->R)(e:R):Qpg o k e=match o with
 |some (.cells xs)=>k xs
 |_=>e:=by
 cases o with
 |none=>rfl
 |some o=>cases o<;>rfl
theorem Qv2{R:Type}(v:V)(kp:Nat->Nat->Nat->R)(ki kr:List V->Nat->R)(e:R):vPtr v kp ki kr e=match v with
 | .ptr f s o=>kp f s o
 | .iptr cs o=>ki cs o
 | .rptr cs o=>kr cs o
 |_=>e:=by cases v<;>rfl
theorem Qvv{R:Type}(v:V)(k:IntKind->Int->R)(e:R):vInt v k e=match v with
 | .int a m=>k a m
 |_=>e:=by cases v<;>rfl
theorem Zdf{R:Type}(v:V)(k:List V->R)(e:R):vAgg v k e=match v with
 | .agg cs=>k cs
 |_=>e:=by cases v<;>rfl
theorem Zdo{R:Type}(v:V)(k:List V->R)(e:R):vTup v k e=match v with
 | .tuple cs=>k cs
 |_=>e:=by cases v<;>rfl
theorem Qx0{R:Type}(v:V)(a b e:R):vBool v a b e=match v with
 | .bool t=>if t then a else b
 |_=>e:=by
 cases v with
 |bool t=>cases t<;>rfl
 |_=>rfl
theorem Q8d(a b:IntKind):Nat.beq (Q3v a) (Q3v b)=decide (a=b):=by cases a<;>cases b<;>rfl
theorem Qg0{R:Type}(m l:Int)(k:Nat->Nat->R)(e:R)(x:Int->Int->R)(h:∀a b:Nat,m=a->l=b->k a b=x m l)(he:e=x m l):Qto m l k e=x m l:=by
 cases m with
 |ofNat a=>cases l with
  |ofNat b=>exact h a b rfl rfl
  |negSucc b=>exact he
 |negSucc a=>exact he
theorem Qqy(k:IntKind)(m:Nat):Qyu k m=k.wrap (m:Int):=by
 have hu:∀(n:Nat),(Int.ofNat (Nat.mod m n))=(m:Int)%(n:Int):=fun n=>(Int.natCast_emod m n);cases k with
 |i64=>
  show Bool.rec (motive:=fun _=>Int) (IntKind.i64.wrap (Int.ofNat m)) (Int.ofNat m) (Nat.ble m (nat_lit 9223372036854775807))=_;cases h:Nat.ble m (nat_lit 9223372036854775807) with
  |false=>rfl
  |true=>
   have h1:m<=9223372036854775807:=Zru h;show(m:Int)=_;have e:(m:Int)%(2^64:Int)=m:=by omega
   simp only[IntKind.wrap,IntKind.bits,IntKind.signed,Zql,e];rw[if_neg];simp only[decide_eq_true_eq];omega
 |u8=>exact hu 256
 |u16=>exact hu 65536
 |u32=>exact hu 4294967296
 |u64=>exact hu 18446744073709551616
 |i8=>rfl
 |i16=>rfl
 |i32=>rfl
theorem Zc4(k:IntKind)(m l:Int):addI k m l=k.wrap (m+l):=by refine Qg0 m l _ _ (fun m l=>k.wrap (m+l)) ?_ rfl;rintro a b rfl rfl;rw[Qqy];rfl
theorem Zcs(k:IntKind)(m l:Int):subI k m l=k.wrap (m-l):=by
 refine Qg0 m l _ _ (fun m l=>k.wrap (m-l)) ?_ rfl;rintro a b rfl rfl;cases h:Nat.ble b a with
 |false=>rfl
 |true=>
  have:=Zru h;show Qyu k (a-b)=_;rw[Qqy];congr 1;omega
theorem Q8i(m l:Int):ltI m l=decide (m<l):=by
 refine Qg0 m l _ _ (fun m l=>decide (m<l)) ?_ rfl;rintro a b rfl rfl;cases h:Nat.ble (Nat.succ a) b with
 |true=>have:=Zru h;symm;exact Zsw (by omega)
 |false=>
  symm;apply Zsx;intro e;have:Nat.ble (Nat.succ a) b=true:=Zsf (by omega);rw[this] at h;cases h
theorem Zae(m l:Int):leI m l=decide (m<=l):=by
 refine Qg0 m l _ _ (fun m l=>decide (m<=l)) ?_ rfl;rintro a b rfl rfl;cases h:Nat.ble a b with
 |true=>have:=Zru h;symm;exact Zsw (by omega)
 |false=>
  symm;apply Zsx;intro e;have:Nat.ble a b=true:=Zsf (by omega);rw[this] at h;cases h
theorem Q78(m l:Int):eqI m l=(m==l):=by
 have:(m==l)=decide (m=l):=by by_cases h:m=l<;>simp[h]
 rw[this];refine Qg0 m l _ _ (fun m l=>decide (m=l)) ?_ rfl;rintro a b rfl rfl;cases h:Nat.beq a b with
 |true=>have:=Zsg h;symm;exact Zsw (by omega)
 |false=>
  have:=Nat.ne_of_beq_eq_false h;symm;exact Zsx (by omega)
theorem Q9c(k:IntKind)(m:Int):convI k m=k.wrap m:=by
 cases m with
 |ofNat a=>exact Qqy k a
 |negSucc a=>rfl
section
variable {P : Program} {pol : Pol} {n : Nat}
theorem Qk6{o:Op}{dst:Option Nat}{cc:FC}{nm:Nat}{k:KT}{T:TM}{F:FH}{x:Option V}(h:evX P (Xo F) (fun x=>(cR n x).f T) nm o=Qqb x)
 (hm:x=none->J4 P (Xo F) (fun x=>(cR n x).f T) nm o=none):Qjh x (fun v=>k ((cP n dst).f T v) F)=(Xz P pol n dst o).f cc nm k T F:=by
 simp only[Xz,h,Qqb];cases x with
 |none=>simp only[Zq9,Qo6,hm rfl,Q4p]
 |some v=>rfl
theorem Qoa{o:Op}{g:Get}{r:Operand->V}{nm:Nat}(h:∀c,o≠ .call c)(h2:∀t x a b c,o≠ .slice t x a b c:=by simp):J4 P g r nm o=none:=by
 unfold J4;split
 . exact absurd rfl (h2 _ _ _ _ _)
 . rename_i c;exact absurd rfl (h c)
 . rfl
theorem Q8a(dst:Option Nat)(x:Operand)(cc:FC)(nm:Nat)(k:KT)(T:TM)(F:FH):(Q7v n dst x).f cc nm k T F=(Xz P pol n dst (.move x)).f cc nm k T F:=rfl
theorem Q49(dst:Option Nat)(x:Operand)(cc:FC)(nm:Nat)(k:KT)(T:TM)(F:FH):(Q7v n dst x).f cc nm k T F=(Xz P pol n dst (.assign x)).f cc nm k T F:=rfl
theorem Q99(dst:Option Nat)(c a b:Operand)(cc:FC)(nm:Nat)(k:KT)(T:TM)(F:FH):(Zag n dst c a b).f cc nm k T F=(Xz P pol n dst (.pick c a b)).f cc nm k T F:=by
 simp only[Zag,Quk,Qx0,Xz,evX,Q8e];cases(cR n c).f T with
 |bool t=>cases t<;>rfl
 |_=>rfl
theorem Zci(dst:Option Nat)(x:Operand)(cc:FC)(nm:Nat)(k:KT)(T:TM)(F:FH):(cNil n dst x).f cc nm k T F=(Xz P pol n dst (.nilCheck x)).f cc nm k T F:=
 Qk6 (x:=ncV ((cR n x).f T)) rfl (fun _=>rfl)
theorem Q9z(dst:Option Nat)(op:UnOp)(t:TypeId)(x:Operand)(cc:FC)(nm:Nat)(k:KT)(T:TM)(F:FH):(cUnOp n dst op x).f cc nm k T F=(Xz P pol n dst (.unOp op t x)).f cc nm k T F:=
 Qk6 (x:=unV op ((cR n x).f T)) rfl (fun _=>rfl)
theorem Qb7(x y:V)(k:IntKind->Int->Int->Option V)(e:Option V)(h:∀a m l,x= .int a m->y= .int a l->k a m l=e)(h2:∀a b m l,x= .int a m->y= .int b l->a≠b->e=none):Qi9 x y k e=e:=by
 simp only[Qi9,Qvv];cases x with
 |int a m=>
  cases y with
  |int b l=>
   simp only[Q8d];by_cases c:a=b
   . subst c;simp only[decide_true];exact h a m l rfl rfl
   . simp only[c,decide_false];exact(h2 a b m l rfl rfl c).symm
  |_=>rfl
 |_=>rfl
theorem Zbq(op:BinOp)(t:TypeId)(x y:Operand)(a b:V):(cBin P op t x y).f a b=Zj P op t x y a b:=by
 have no:∀(c d:IntKind) (m l:Int),a= .int c m->b= .int d l->c≠d->op≠ .shl->op≠ .shr->Zj P op t x y a b=none:=by rintro c d m l rfl rfl h h1 h2;cases op<;>first|exact absurd rfl h1|exact absurd rfl h2|simp[Zj,h]
 have yes:∀(c:IntKind) (m l:Int),a= .int c m->b= .int c l->op≠ .shl->op≠ .shr->Zj P op t x y a b=Qc9 op c m l:=by rintro c m l rfl rfl h1 h2;cases op<;>first|exact absurd rfl h1|exact absurd rfl h2|simp[Zj]
 cases op<;>simp only[cBin]
 case add=>exact Qb7 a b _ _ (fun c m l h1 h2=>by rw[yes c m l h1 h2 (by simp) (by simp),Zc4];rfl) (fun c d m l h1 h2 h=>no c d m l h1 h2 h (by simp) (by simp))
 case sub=>exact Qb7 a b _ _ (fun c m l h1 h2=>by rw[yes c m l h1 h2 (by simp) (by simp),Zcs];rfl) (fun c d m l h1 h2 h=>no c d m l h1 h2 h (by simp) (by simp))
 case eql=>exact Qb7 a b _ _ (fun c m l h1 h2=>by rw[yes c m l h1 h2 (by simp) (by simp),Q78];rfl) (fun c d m l h1 h2 h=>no c d m l h1 h2 h (by simp) (by simp))
 case neq=>exact Qb7 a b _ _ (fun c m l h1 h2=>by rw[yes c m l h1 h2 (by simp) (by simp),Q78];simp only[Qc9,bne];cases(m==l)<;>rfl) (fun c d m l h1 h2 h=>no c d m l h1 h2 h (by simp) (by simp))
 case lss=>exact Qb7 a b _ _ (fun c m l h1 h2=>by rw[yes c m l h1 h2 (by simp) (by simp),Q8i];rfl) (fun c d m l h1 h2 h=>no c d m l h1 h2 h (by simp) (by simp))
 case leq=>exact Qb7 a b _ _ (fun c m l h1 h2=>by rw[yes c m l h1 h2 (by simp) (by simp),Zae];rfl) (fun c d m l h1 h2 h=>no c d m l h1 h2 h (by simp) (by simp))
 case gtr=>exact Qb7 a b _ _ (fun c m l h1 h2=>by rw[yes c m l h1 h2 (by simp) (by simp),Q8i];rfl) (fun c d m l h1 h2 h=>no c d m l h1 h2 h (by simp) (by simp))
 case geq=>exact Qb7 a b _ _ (fun c m l h1 h2=>by rw[yes c m l h1 h2 (by simp) (by simp),Zae];rfl) (fun c d m l h1 h2 h=>no c d m l h1 h2 h (by simp) (by simp))
theorem Q41(dst:Option Nat)(op:BinOp)(t u:TypeId)(x y:Operand)(cc:FC)(nm:Nat)(k:KT)(T:TM)(F:FH):(Q2y P n dst op t x y).f cc nm k T F=(Xz P pol n dst (.binOp op t x y u)).f cc nm k T F:=by simp only[Q2y,Zbq];exact Qk6 (x:=Zj P op t x y ((cR n x).f T) ((cR n y).f T)) rfl (fun _=>rfl)
theorem Qyi(dst:Option Nat)(t:Operand)(i:Nat)(cc:FC)(nm:Nat)(k:KT)(T:TM)(F:FH):(Qz2 n dst t i).f cc nm k T F=(Xz P pol n dst (.extract t i)).f cc nm k T F:=by
 refine Qk6 (x:=tupO ((cR n t).f T) i) ?_ (fun _=>rfl);simp only[evX,Qor,tupO,Zdo,Qqb];cases(cR n t).f T with
 |tuple vs=>simp only[Qkt]
 |_=>rfl
theorem Q50(chk:Bool)(dst:Option Nat)(t:TypeId)(cc:FC)(nm:Nat)(k:KT)(T:TM)(F:FH)(hf:chk=false->F.tr.get nm=none):
 (Q0b P n chk dst t).f cc nm k T F=(Xz P pol n dst (.alloc t)).f cc nm k T F:=by
 simp only[Q0b,Xz,evX,Q2h];cases zeroCells P t with
 |none=>rfl
 |some z=>
  simp only[Zqc,new,newK,Xo];cases chk with
  |false=>
   have:=hf rfl;simp only[this];rfl
  |true=>
   cases h:F.tr.get nm with
   |none=>rfl
   |some o=>rfl
theorem Qyw(t:TypeId)(xs:List V)(o:Nat):(Qya P t).f xs o=Qr P t xs o:=by
 simp only[Qya,Qr];cases P.underlying t with
 |none=>rfl
 |some dd=>
  cases sz P t with
  |none=>rfl
  |some m=>
   simp only;cases Qn8 dd with
   |false=>simp only[cond_false,Qkt,Zpo,if_false]
   |true=>
    simp only[cond_true,if_true];by_cases h:o+m<=xs.length
    . rw[if_pos h,Zsf h];rfl
    . have:Nat.ble (o+m) xs.length=false:=by
       rw[Zse];intro e;exact h (Zru e)
      rw[if_neg h,this];rfl
theorem Q7c(dst:Option Nat)(t:TypeId)(a:Operand)(cc:FC)(nm:Nat)(k:KT)(T:TM)(F:FH):(Za1 P n dst t a).f cc nm k T F=(Xz P pol n dst (.load t a)).f cc nm k T F:=by
 simp only[Za1,loadK,Qv2,Qly,Xz,evX,Zav,Qoa (P:=P) (o:= .load t a) (by simp),Qyw];cases(cR n a).f T with
 |ptr f s o=>
  simp only;cases Xo F f s with
  |none=>rfl
  |some q=>
   cases q with
   |cells xs=>
    simp only;cases Qr P t xs o<;>rfl
   |_=>rfl
 |iptr cs o=>simp only;cases Qr P t cs o<;>rfl
 |rptr cs o=>simp only;cases Qr P t cs o<;>rfl
 |_=>rfl
theorem Qfe{α:Type}(x y:α)(b:Bool):Bool.rec (motive:=fun _=>α) x y b=if b then y else x:=by cases b<;>rfl
theorem Q4u{R:Type}(v:V)(k1:R)(kc:List V->R)(e:R):Zbh v k1 kc e=match v with
 | .agg cs=>if cs.all V.scalar then kc cs else e
 | .bad| .tuple _=>e
 |_=>k1:=by
 cases v with
 |agg cs=>exact Qfe _ _ _
 |_=>rfl
theorem Q5v(dst:Option Nat)(t:TypeId)(a x:Operand)(cc:FC)(nm:Nat)(k:KT)(T:TM)(F:FH):(Q0j P n dst t a x).f cc nm k T F=(Xz P pol n dst (.store t a x)).f cc nm k T F:=by
 simp only[Q0j,Xz,evX,Q1v,Qoa (P:=P) (o:= .store t a x) (by simp)];cases sz P t with
 |none=>
  simp only;cases(cR n a).f T with
  |ptr f s o=>cases((cR n x).f T).cells<;>rfl
  |_=>rfl
 |some m=>
  simp only[Q7y,Qv2];cases(cR n a).f T with
  |ptr f s o=>
   simp only[Q4u];have one:∀v:V,v.cells=some [v]->(Qpg (Xo F f s) (fun xs=>Bool.rec (motive:=fun _=>FO) .no (Option.rec (motive:=fun _=>FO) .no (fun _=>k ((cP n dst).f T .bad) (wrF F (some (f,s,.cells (setV xs o v))))) (Q2c xs o)) (Nat.beq m (nat_lit 1))) .no)=
    Qo6 pol (match V.ptr f s o,v.cells,some m with
     | .ptr f s o,some cs,some n=>(match Xo F f s with
       |some (.cells xs)=>if cs.length=n/\o+n<=xs.length then some (.val .bad (some (f,s,.cells (splice xs o cs)))) else none
       |_=>none)
     |_,_,_=>none) none cc (fun v F=>k ((cP n dst).f T v) F) T F:=by
    intro v hv;simp only[hv,Qly];cases Xo F f s with
    |none=>rfl
    |some q=>
     cases q with
     |cells xs=>
      simp only[Qfe,Qkt,Q31];by_cases h:m=1
      . subst h;by_cases h2:o<xs.length
        . rw[Zpk h2,if_pos (show Nat.beq 1 1=true from rfl),if_pos ⟨rfl,h2⟩,Q02 _ _ _ h2];rfl
        . rw[Zpn (by omega),if_pos (show Nat.beq 1 1=true from rfl),if_neg (fun e=>h2 e.2)];rfl
      . have:Nat.beq m 1=false:=by rw[Zse];intro e;exact h (Zsg e)
        show(if Nat.beq m 1=true then _ else FO.no)=_;rw[this,if_neg (by simp),if_neg (fun e=>h (by simpa using e.1.symm))];rfl
     |_=>rfl
   cases(cR n x).f T with
   |bad=>rfl
   |tuple l=>rfl
   |agg cs=>
    simp only[V.cells];by_cases hs:cs.all V.scalar
    . simp only[hs,if_true,Qly];cases Xo F f s with
      |none=>rfl
      |some q=>
       cases q with
       |cells xs=>
        simp only[Qfe];by_cases h:cs.length=m
        . have e:Nat.beq cs.length m=true:=by rw[h];exact Nat.beq_refl m
          by_cases h2:o+m<=xs.length
          . have e2:Nat.ble (Nat.add o m) xs.length=true:=Zsf h2;rw[e,e2,if_pos rfl,if_pos rfl,if_pos ⟨h,h2⟩];rfl
          . have e2:Nat.ble (Nat.add o m) xs.length=false:=by rw[Zse];intro q;exact h2 (Zru q)
            rw[e,e2,if_pos rfl,if_neg (by simp),if_neg (fun q=>h2 q.2)];rfl
        . have e:Nat.beq cs.length m=false:=by rw[Zse];intro q;exact h (Zsg q)
          rw[e,if_neg (by simp),if_neg (fun q=>h q.1)];rfl
       |_=>rfl
    . simp only[hs,if_false,Zpo];rfl
   |_=>exact one _ rfl
  |_=>rfl
theorem Qsz(dst:Option Nat)(t:TypeId)(x:Operand)(i:Nat)(cc:FC)(nm:Nat)(k:KT)(T:TM)(F:FH):(Qjz P n dst t x i).f cc nm k T F=(Xz P pol n dst (.fieldAddr t x i)).f cc nm k T F:=by
 simp only[Qjz,Xz,evX,Qjw,Qoa (P:=P) (o:= .fieldAddr t x i) (by simp)];cases P.underlying t with
 |none=>rfl
 |some dd=>
  cases dd with
  |struct fs=>
   simp only;cases fs[i]? with
   |none=>rfl
   |some f=>
    simp only;cases sz P f.type with
    |none=>rfl
    |some m=>
     simp only;by_cases h:m=0
     . subst h;rfl
     . have e:Nat.beq m 0=false:=by rw[Zse];intro q;exact h (Zsg q)
       rw[e,if_neg h];simp only[cond_false,offV,Qv2];cases(cR n x).f T<;>rfl
  |_=>rfl
theorem Q8l(t:TypeId)(xs:List V)(o:Nat):(Q80 P t).f xs o=Qck P t xs o:=by
 simp only[Q80,Qck];cases P.underlying t with
 |none=>rfl
 |some dd=>
  cases sz P t with
  |none=>rfl
  |some m=>
   simp only;cases Qn8 dd with
   |false=>simp only[cond_false,Qkt,Zpo,if_false]
   |true=>rfl
theorem Q4o(dst:Option Nat)(t:TypeId)(x:Operand)(i:Nat)(cc:FC)(nm:Nat)(k:KT)(T:TM)(F:FH):(Q0r P n dst t x i).f cc nm k T F=(Xz P pol n dst (.field t x i)).f cc nm k T F:=by
 simp only[Q0r,Xz,evX,Q1k,Qoa (P:=P) (o:= .field t x i) (by simp)];cases P.underlying t with
 |none=>rfl
 |some dd=>
  cases dd with
  |struct fs=>
   simp only;cases hf:fs[i]? with
   |none=>
    simp only;cases(cR n x).f T<;>first|rfl|(simp only[hf];rfl)
   |some f=>
    simp only[aggO,Zdf,Q8l];cases(cR n x).f T with
    |agg cs=>
     simp only[hf];cases Qck P f.type cs f.offset<;>rfl
    |_=>rfl
  |_=>rfl
end
end Go.AM.BM
end
end
