/- This file holds in one the texts An24, An25, An26, An27, An28; each says at its head what it proves. -/
import Derived.Test.YtjllfbejpjonnaaGreatDoorT9
import Derived.Lib.BytesEntry
import Derived.Lib.MakeNoZero
import Derived.ProofKit
import Derived.OpenShut
set_option linter.unusedSimpArgs false
set_option linter.unusedVariables false
section
namespace Go.AM
def bytesV(g:Get):V->Option (List UInt8)
 | .str s=>some s
 |x=>match Qk g 1 x with
  |some (cs,_)=>bytesOf cs
  |none=>none
abbrev Prim:=Nat->Option Nat->Get->List V->Option (V×Option (Nat×Nat×O))
def K8:Prim:=fun _ _ g as=>match as with
 |[x,.int .u8 c]=>(match bytesV g x with
  |some l=>some (.int .i64 (Lib.countByte l c.toNat.toUInt8:Nat),none)
  |none=>none)
 |_=>none
def Kt:Prim:=fun _ _ g as=>match as with
 |[x,.int .u8 c]=>(match bytesV g x with
  |some l=>some (.int .i64 (Lib.indexByte l c.toNat.toUInt8),none)
  |none=>none)
 |_=>none
def Qdj:Prim:=fun fr dst g as=>match as,dst with
 |[.int .i64 n],some d=>(match g fr d with
  |none=>if 0<=n/\n<=281474976710656 then some (.mS fr d 0 n.toNat none 1,some (fr,d,.cells (List.replicate n.toNat .byte))) else none
  |some _=>none)
 |_,_=>none
section
variable {P : Program} {E : Env} {B : Nat} {F : Nat -> Nat -> Prop} {H : Heap}
structure Bo(P:Program)(f:FuncId)(e:Array Value->Sem Value):Prop where
 at_:∃fn,P.funcs[f]?=some fn/\(fn.name== "runtime.NumGoroutine")=false/\fn.body.isNone=true/\Extern.findNext fn=none/\Extern.find fn=some e
theorem Bo.run{f:FuncId}{e:Array Value->Sem Value}(h:Bo P f e){args:Array Value}{w w' :World}{v:Value}(hr:(e args).run P w= .ok v w'):
 (callFunc f args).run P w= .ok (.value v) w' :=by
 obtain⟨fn,h1,h2,h3,h4,h5⟩:=h.at_;rw[run_callFunc_extern h1 h2 h3 h4 h5,hr];rfl
theorem Bo.plain{f:FuncId}{e:Array Value->Sem Value}(h:Bo P f e)(S:Sim B F H E){cargs:List Value}{v:V}{c:Value}(hr:(e ⟨cargs⟩).run P E.w= .ok c E.w)(hv:Rel E v c):
 Invokes P f ⟨cargs⟩ E.w (Answer B F H E (.ret v) H):=
 .inl ⟨c,E.w,h.run hr,E,rfl,⟨c,rfl,hv⟩,S,Ext.refl _ _ _,Zn6 _⟩
theorem Qsx(S:Sim B F H E){esz n:Nat}{x:V}{cs:List V}{c:Value}(h:Qk (Qd H) esz x=some (cs,n))(hr:Rel E x c):
 ∃a cap vs,c= .slice a n cap/\Qh E cs vs/\vs.length=n*esz/\(vs=[]\/∃b off,a=some ⟨b,off,none⟩/\Qgn E.w b off vs):=by
 unfold Qk at h;split at h
 . cases h;simp only[Rel] at hr;subst hr;exact⟨none,0,[],rfl,.nil,by simp,.inl rfl⟩
 . split at h
   . rename_i hl;cases h;simp only[Rel] at hr;obtain⟨a,cap,vs,rfl,h1,_,h3,h4,_⟩:=hr;refine⟨some a,cap,vs,rfl,h4,by rw[<-h4.length];exact hl,?_⟩;rcases h3 with rfl|⟨h3,h5⟩
     . exact .inl rfl
     . obtain⟨b,off,sp⟩:=a;simp only at h3;subst h3;exact .inr ⟨b,off,rfl,h5.lies⟩
   . cases h
 . split at h
   . rename_i he;cases h;subst he;simp only[Rel] at hr;obtain⟨b,off,cap,vs,rfl,h1,h3,h4,h5,_⟩:=hr;exact⟨_,cap,vs,rfl,h4,h4.length.symm.trans h5,.inr ⟨b,off,rfl,h3.lies⟩⟩
   . cases h
 . rename_i f s o n' cap e;split at h
   . rename_i xs hg;split at h
     . rename_i hh;obtain⟨rfl,hle⟩:=hh;cases h;simp only[Rel] at hr;obtain⟨b,c',T,sz',hmu,rfl,h1,_,_,_⟩:=hr;obtain⟨b2,cc,T2,vs,rest,g1,_,_,_,g5,_,_,g8⟩:=S.lies hg;rw[hmu] at g1;cases g1;have hvl:((vs.drop o).take (n*e)).length=n*e:=by
        have:=g5.length;simp;omega
       exact⟨_,c',_,rfl,(g5.drop o).take _,hvl,.inr ⟨b,o,rfl,g8.from o _⟩⟩
     . cases h
   . cases h
 . cases h
theorem Qnt:∀{cs:List V} {l:List UInt8} {vs:List Value},bytesOf cs=some l->Qh E cs vs->∃xs:List Int,vs=xs.map (fun x=> .int .u8 x)/\Lib.bytesOf xs=l
 |[],l,vs,h,hr=>by
  cases h;rw[Qh.nil_iff] at hr;subst hr;exact⟨[],rfl,rfl⟩
 |c::cs,l,vs,h,hr=>by
  obtain⟨v,r,rfl,h1,h2⟩:=Qh.cons_iff.1 hr;unfold bytesOf at h;split at h
  . rename_i heq;cases heq
  . rename_i n r' heq;cases heq;cases hb:bytesOf cs with
    |none=>rw[hb] at h;cases h
    |some l' =>
     rw[hb] at h;cases h;obtain⟨xs,rfl,rfl⟩:=Qnt hb h2;simp only[Rel] at h1;subst h1;exact⟨n::xs,rfl,rfl⟩
  . cases h
theorem Qkw(S:Sim B F H E){x:V}{l:List UInt8}{c:Value}(h:bytesV (Qd H) x=some l)(hr:Rel E x c):∃s:ByteArray,s.data.toList=l/\(Extern.Bytes.bytesOf c).run P E.w= .ok s E.w:=by
 unfold bytesV at h;split at h
 . cases h;simp only[Rel] at hr;subst hr;exact⟨_,rfl,rfl⟩
 . split at h
   case h_2=>cases h
   rename_i cs n hs;obtain⟨a,cap,vs,rfl,h1,h2,h3⟩:=Qsx S hs hr;obtain⟨xs,rfl,rfl⟩:=Qnt h h1;simp only[List.length_map,Zof] at h2;subst h2;cases a with
   |none=>
    refine⟨.empty,?_,rfl⟩;rcases h3 with h3|⟨b,off,h3,_⟩
    . simp only[List.map_eq_nil_iff] at h3;subst h3;rfl
    . cases h3
   |some a=>
    have hc:∀j x,xs[j]?=some x->E.w.cell? (a.add j)=some (.int .u8 x):=by
     intro j x hj;rcases h3 with h3|⟨b,off,h3,h4⟩
     . simp only[List.map_eq_nil_iff] at h3;subst h3;cases hj
     . cases h3;have e:(⟨b,off,none⟩:Addr).add j=⟨b,off+j,none⟩:=by unfold Addr.add;split<;>simp_all
       rw[e];exact h4 j (.int .u8 x) (by simp[hj])
    refine⟨_,?_,Lib.run_loadBytesX (P:=P) E.w xs a .empty hc⟩;simp
theorem sound_count{f:FuncId}(hx:Bo P f Extern.BytealgCount.count)(S:Sim B F H E){fr:Nat}{dst:Option Nat}{args:List V}{cargs:List Value}{v:V}{x:Option (Nat×Nat×O)}
 (hr:Qh E args cargs)(h:K8 fr dst (Qd H) args=some (v,x)):Invokes P f ⟨cargs⟩ E.w (Answer B F H E (.ret v) (wr H x)):=by
 unfold K8 at h;split at h
 case h_2=>cases h
 rename_i y c;split at h
 case h_2=>cases h
 rename_i l hl;cases h;obtain⟨cy,r1,rfl,h1,h2⟩:=Qh.cons_iff.1 hr;obtain⟨cc,r2,rfl,h3,h4⟩:=Qh.cons_iff.1 h2;rw[Qh.nil_iff] at h4;subst h4;simp only[Rel] at h3;subst h3;obtain⟨s,rfl,hb⟩:=Qkw (P:=P) S hl h1;refine hx.plain S (c:= .int .i64 (Lib.countByte s.data.toList c.toNat.toUInt8:Nat)) ?_ (by simp[Rel]);rw[<-Lib.run_countString (P:=P) s c E.w];have hdef:∀b c,Extern.BytealgCount.count #[b,c]=(do
  let b<-Extern.Bytes.bytesOf b
  let c<-Extern.Bytes.asByte c
  pure (goInt (b.foldl (fun n x=>if x==c then n+1 else n) (0:Nat)))):=fun _ _=>rfl
 show Sem.run P (Extern.BytealgCount.count #[cy,.int .u8 c]) E.w=_;rw[hdef,hdef,Zrf,hb,Zrf];rfl
theorem sound_indexByte{f:FuncId}(hx:Bo P f Extern.BytealgIndexByte.indexByte)(S:Sim B F H E){fr:Nat}{dst:Option Nat}{args:List V}{cargs:List Value}{v:V}{x:Option (Nat×Nat×O)}
 (hr:Qh E args cargs)(h:Kt fr dst (Qd H) args=some (v,x)):Invokes P f ⟨cargs⟩ E.w (Answer B F H E (.ret v) (wr H x)):=by
 unfold Kt at h;split at h
 case h_2=>cases h
 rename_i y c;split at h
 case h_2=>cases h
 rename_i l hl;cases h;obtain⟨cy,r1,rfl,h1,h2⟩:=Qh.cons_iff.1 hr;obtain⟨cc,r2,rfl,h3,h4⟩:=Qh.cons_iff.1 h2;rw[Qh.nil_iff] at h4;subst h4;simp only[Rel] at h3;subst h3;obtain⟨s,rfl,hb⟩:=Qkw (P:=P) S hl h1;refine hx.plain S (c:= .int .i64 (Lib.indexByte s.data.toList c.toNat.toUInt8)) ?_ (by simp[Rel]);rw[<-Lib.run_indexByteString (P:=P) s c E.w];have hdef:∀b c,Extern.BytealgIndexByte.indexByte #[b,c]=(do
  let b<-Extern.Bytes.bytesOf b
  let c<-Extern.Bytes.asByte c
  match(List.range b.size).find? fun i=>b[i]! ==c with
  |some i=>pure (goInt i)
  |none=>pure (goInt (-1))):=fun _ _=>rfl
 show Sem.run P (Extern.BytealgIndexByte.indexByte #[cy,.int .u8 c]) E.w=_;rw[hdef,hdef,Zrf,hb,Zrf];rfl
theorem Qls:∀(n t:Nat) (acc:Array Value),(∀v∈acc.toList,∃m,v= .int .u8 m)->∀v∈(Extern.BytealgMakeNoZero.digits n t acc).toList,∃m,v= .int .u8 m
 |0,_,_,h=>h
 |n+1,t,acc,h=>by
  rw[Extern.BytealgMakeNoZero.digits];refine Qls n _ _ fun v hv=>?_;rw[Array.toList_push,Zog,Zoh] at hv;rcases hv with hv|rfl
  . exact h v hv
  . exact⟨_,rfl⟩
theorem Zal{w:World}{ps:Array TypeId}{t e:TypeId}(ht:P.underlying t=some (.slice e)){n:Nat}(hn:n<=281474976710656):
 ∃cs:Array Value,(Extern.BytealgMakeNoZero.makeNoZero ps #[t] #[.int .i64 n]).run P w= .ok (.slice (some ⟨w.heap.size,0,none⟩) n cs.size) (w.drew.drew.alloc (.cells cs e))/\n<=cs.size/\
  ∀v∈cs.toList,∃m,v= .int .u8 m:=by
 have hdef:Extern.BytealgMakeNoZero.makeNoZero ps #[t] #[.int .i64 n]=
  (do
    let .slice elem<-underlying t|stuck "bytealg.MakeNoZero: slice type expected"
    if(n:Int)<0||(n:Int)>2^48 then runtimePanic (.error "makeslice: len out of range")
    let cap<-choose (.appendCap (n:Int).toNat 0 elem)
    askRoom cap
    let bytes<-choose (.extern "internal/bytealg.MakeNoZero.bytes" 0)
    let a<-newRow elem (Extern.BytealgMakeNoZero.digits cap bytes #[])
    pure (.slice (some a) (n:Int).toNat cap)):=rfl
 refine⟨Extern.BytealgMakeNoZero.digits (grownCap w n 0 e) ((Question.extern "internal/bytealg.MakeNoZero.bytes" 0).cut (w.tape (w.drawn+1) (.extern "internal/bytealg.MakeNoZero.bytes" 0))) #[],?_,?_,?_⟩
 . rw[hdef];have h1:¬(n:Int)<0:=by omega
   have h2:¬(281474976710656:Int)<(n:Int):=by omega
   simp[run_underlying ht,h1,h2,Question.forced,newRow,Lib.size_digits,grownCap]
 . rw[Lib.size_digits];simpa using grownCap_ge w n 0 e
 . exact Qls _ _ _ (by simp)
theorem sound_make{f:FuncId}{ps:Array TypeId}{t e:TypeId}(hx:Bo P f (Extern.BytealgMakeNoZero.makeNoZero ps #[t]))(ht:P.underlying t=some (.slice e))(S:Sim B F H E){fr:Nat}(hlt:fr<H.length){dst:Option Nat}
 {args:List V}{cargs:List Value}{v:V}{x:Option (Nat×Nat×O)}
 (hr:Qh E args cargs)(h:Qdj fr dst (Qd H) args=some (v,x)):Invokes P f ⟨cargs⟩ E.w (Answer B F H E (.ret v) (wr H x)):=by
 unfold Qdj at h;split at h
 case h_2=>cases h
 rename_i n d;split at h
 case h_2=>cases h
 rename_i hn;split at h
 case isFalse=>cases h
 rename_i hle;cases h;obtain⟨cy,r1,rfl,h1,h2⟩:=Qh.cons_iff.1 hr;rw[Qh.nil_iff] at h2;subst h2;simp only[Rel] at h1;subst h1;obtain⟨k,rfl⟩:=Int.eq_ofNat_of_zero_le hle.1;have hk:k<=281474976710656:=by have:=hle.2;omega
 obtain⟨cs,hrun,hcs,hbytes⟩:=Zal (P:=P) (w:=E.w) (ps:=ps) ht hk;have hlen:cs.toList=cs.toList.take k++cs.toList.drop k:=(Zoi _ _).symm;obtain⟨X,S'⟩:=S.newCells hlt hn (List.replicate k .byte) (cs.toList.take k) (cs.toList.drop k) e (E.w.drawn+1+1) (by
  have hl:(cs.toList.take k).length=k:=by simp;omega
  have:∀(l:List Value),(∀v∈l,∃n,v= .int .u8 n)->Qh E (List.replicate l.length .byte) l:=by
   intro l
   induction l with
   |nil=>intro _;exact .nil
   |cons a l ih=>intro hl;exact .cons (by simp only[Rel];exact hl a (by simp)) (ih fun v hv=>hl v (by simp[hv]))
  have:=this (cs.toList.take k) (fun v hv=>hbytes v (List.mem_of_mem_take hv))
  rwa[hl] at this) (by simp[V.scalar])
 refine .inl ⟨_,_,hx.run hrun,E.newCells fr d (cs.toList.take k++cs.toList.drop k) e (E.w.drawn+1+1),?_,⟨_,rfl,?_⟩,S',X,by rw[wr_length];exact Zn6 _⟩
 . rw[<-hlen];rfl
 . have hsh:((E.newCells fr d (cs.toList.take k++cs.toList.drop k) e (E.w.drawn+1+1)).w.heap)[E.w.heap.size]?=some (.cells ⟨cs.toList.take k++cs.toList.drop k⟩ e (0,0)):=by
    simp[Env.newCells,Env.push]
   simp only[Rel];refine⟨E.w.heap.size,cs.size,e,cs.size,by simp[Env.newCells,upd],rfl,hcs,(fun k h=>by cases h),?_,(by omega),(fun _=>by omega)⟩;simp only[World.shape?,hsh];rw[<-hlen]
end
def Xu(R:TypeId->List V->Prop):List TypeId->List V->Prop
 |[],xs=>xs=[]
 |t::ts,xs=>∃y r,R t y/\Xu R ts r/\xs=y++r
def Jc(P:Program):Nat->TypeId->List V->Prop
 |0,_,_=>False
 |n+1,t,xs=>match P.underlying t with
  |some .bool=>∃b,xs=[.bool b]
  |some (.int k)=>∃m,xs=[.int k m]/\(Lit.int k m).wf=true
  |some .string=>∃s:List UInt8,xs=[.str s]/\s.length<=maxLen
  |some (.slice e)=>xs=[.nS]\/∃ys:List (List V),xs=[.iS ys.flatten ys.length false]/\ys.length<=maxLen/\∀y∈ys,Jc P n e y
  |some (.struct fs)=>Xu (Jc P n) (fs.toList.map (·.type)) xs
  |some (.array k e)=>Xu (Jc P n) (List.replicate k e) xs
  |_=>False
def Qe9(P:Program):Nat->List Field->Nat->Bool
 |o,[],n=>o==n
 |o,f::r,n=>f.offset==o&&Qe9 P (o+P.cellsOf f.type) r n
def Q2o(P:Program)(book:List TypeId):Bool:=
 book.all fun t=>match P.underlying t with
  |some .bool|some (.int _)|some .string=>true
  |some (.slice e)=>book.contains e
  |some (.struct fs)=>Qe9 P 0 fs.toList (P.cellsOf t)&&fs.toList.all fun f=>book.contains f.type
  |some (.array k e)=>P.cellsOf t==k*P.cellsOf e&&book.contains e
  |_=>false
abbrev Qkm(P:Program)(W:World):Env:=bare (Qt P) W fun _ _=>False
theorem Zc4(a:Addr)(m j:Nat):(a.add m).add j=a.add (m+j):=by
 unfold Addr.add;by_cases hj:j=0
 . subst hj;simp
 . by_cases hm:m=0
   . subst hm;simp[hj]
   . have:m+j≠0:=by omega
     simp[hj,hm,Zoj]
section
variable {H : Type} {enc : TypeId × Value -> H} {P : Program} {W : World} {book : List TypeId}
theorem Q9g{a:Addr}{vs:List Value}(h:∀i v,vs[i]?=some v->W.cell? (a.add i)=some v):Qe6 (Qkm P W) a vs:=by
 cases vs with
 |nil=>exact .inl rfl
 |cons v r=>
  right;have h0:=h 0 v rfl;have hs:a.spot=none:=by
   have e:a.add 0=a:=by simp[Addr.add]
   rw[e] at h0;unfold World.cell? at h0;split at h0
   . cases hs:a.spot with
     |none=>rfl
     |some s=>simp[hs] at h0
   . cases h0
  refine⟨hs,fun i v hv=>⟨?_,fun hm=>hm⟩⟩;have:=h i v hv;have e:a.add i=⟨a.block,a.off+i,none⟩:=by obtain⟨b,o,s⟩:=a;simp only at hs;subst hs;unfold Addr.add;split<;>simp_all
  rw[e] at this;exact this
def Qpx(P:Program)(W:World)(n:Nat)(t:TypeId)(cs:List Value):Prop:=∃xs,Jc P n t xs/\Qh (Qkm P W) xs cs/\Qu xs=true
theorem Qhb{n:Nat}{cs:List Value}:∀(fs:List Field) (o:Nat),Qe9 P o fs cs.length=true->(∀f∈fs,Qpx P W n f.type ((cs.drop f.offset).take (P.cellsOf f.type)))->
 ∃xs,Xu (Jc P n) (fs.map (·.type)) xs/\Qh (Qkm P W) xs (cs.drop o)/\Qu xs=true
 |[],o,ht,_=>by
  simp only[Qe9,beq_iff_eq] at ht;subst ht;exact⟨[],rfl,by rw[List.drop_length];exact .nil,rfl⟩
 |f::r,o,ht,h=>by
  simp only[Qe9,Zok,beq_iff_eq] at ht;obtain⟨rfl,ht⟩:=ht;obtain⟨y,h1,h2,h3⟩:=h f (by simp);obtain⟨xs,g1,g2,g3⟩:=Qhb r _ ht (fun g hg=>h g (by simp[hg]));refine⟨y++xs,⟨y,xs,h1,g1,rfl⟩,?_,Qgd h3 g3⟩;have e:cs.drop f.offset=(cs.drop f.offset).take (P.cellsOf f.type)++cs.drop (f.offset+P.cellsOf f.type):=by rw[<-Zol,Zoi]
  rw[e];exact h2.append g2
theorem Qhl{n c:Nat}{e:TypeId}{cs:List Value}:∀(k i:Nat),(∀j,i<=j->j<i+k->Qpx P W n e ((cs.drop (j*c)).take c))->cs.length=(i+k)*c->
 ∃xs,Xu (Jc P n) (List.replicate k e) xs/\Qh (Qkm P W) xs (cs.drop (i*c))/\Qu xs=true
 |0,i,_,hl=>by
  refine⟨[],rfl,?_,rfl⟩;rw[List.drop_of_length_le (by rw[hl];simp)];exact .nil
 |k+1,i,h,hl=>by
  obtain⟨y,h1,h2,h3⟩:=h i (Zn6 _) (by omega);obtain⟨xs,g1,g2,g3⟩:=Qhl k (i+1) (fun j hj hj' =>h j (by omega) (by omega)) (by rw[hl];congr 1;omega);refine⟨y++xs,⟨y,xs,h1,g1,rfl⟩,?_,Qgd h3 g3⟩;have e:cs.drop (i*c)=(cs.drop (i*c)).take c++cs.drop ((i+1)*c):=by rw[Nat.succ_mul,<-Zol,Zoi]
  rw[e];exact h2.append g2
theorem Qm1{n c:Nat}{e:TypeId}{a:Addr}:∀(len:Nat),(∀i,i<len->∃cs,W.cells? 0 (a.add (i*c)) c=some cs/\Qpx P W n e cs)->
 ∃(ys:List (List V)) (vs:List Value),ys.length=len/\(∀y∈ys,Jc P n e y)/\Qh (Qkm P W) ys.flatten vs/\Qu ys.flatten=true/\vs.length=len*c/\∀i v,vs[i]?=some v->W.cell? (a.add i)=some v
 |0,_=>⟨[],[],rfl,(fun _ h=>by cases h),.nil,rfl,by simp,fun i v h=>by simp at h⟩
 |len+1,h=>by
  obtain⟨ys,vs,h1,h2,h3,h4,h5,h6⟩:=Qm1 len (fun i hi=>h i (by omega));obtain⟨cs,hc,y,g1,g2,g3⟩:=h len (by omega);obtain⟨_,hl,hcell⟩:=World.cells?_some hc;refine⟨ys++[y],vs++cs,by simp[h1],?_,?_,?_,by rw[Zom,h5,hl,Nat.succ_mul],?_⟩
  . intro z hz;rcases Zog.1 hz with hz|hz
    . exact h2 z hz
    . rw[Zoh] at hz;subst hz;exact g1
  . rw[Zon];simpa using h3.append g2
  . rw[Zon];exact Qgd h4 (by simpa using g3)
  . intro i v hv;rcases Zn3 i vs.length with hi|hi
    . exact h6 i v (by rwa[Zoo hi] at hv)
    . rw[Zop hi] at hv;have hlt:i-vs.length<cs.length:=(Zoq.1 hv).1;have:=hcell (i-vs.length) (by omega);rw[Zc4,hv] at this;have e1:len*c+(i-vs.length)=i:=by omega
      rwa[e1] at this
theorem Qi5(hb:Q2o P book=true):∀(fuel:Nat) (t:TypeId) (cs:List Value) (x:DataW H×List MemPlace),t∈book->
 DataW.trod enc P W 0 (fun _=>true) true fuel t cs=some x->Qpx P W fuel t cs
 |0,t,cs,x,_,h=>by cases h
 |fuel+1,t,cs,x,ht,h=>by
  have ih:=fun t cs x=>Qi5 hb fuel t cs x;have hbt:=Zor.1 hb t ht;unfold Qpx;unfold Jc;cases hu:P.underlying t with
  |none=>rw[hu] at hbt;cases hbt
  |some d=>
   rw[hu] at hbt;cases d with
   |bool=>
    obtain⟨b,rfl,_⟩:=DataW.trod_bool hu h;exact⟨[.bool b],⟨b,rfl⟩,.cons (by simp[Rel]) .nil,rfl⟩
   |int k=>
    obtain⟨m,rfl,_,hw⟩:=DataW.trod_int hu h;exact⟨[.int k m],⟨m,rfl,hw⟩,.cons (by simp[Rel]) .nil,rfl⟩
   |string=>
    obtain⟨s,rfl,_,hs⟩:=DataW.trod_string hu h;refine⟨[.str s.data.toList],⟨s.data.toList,rfl,by rw[<-Lib.size_eq];exact hs⟩,.cons (by simp[Rel]) .nil,rfl⟩
   |slice e=>
    have he:e∈book:=by simpa using hbt
    rcases DataW.trod_slice hu h with⟨rfl,_⟩|⟨a,len,cap,elems,rest,n,hn,rfl,_,_,hlc,hcm,hel,hread,_⟩
    . exact⟨[.nS],.inl rfl,.cons (by simp[Rel]) .nil,rfl⟩
    . cases hn;obtain⟨ys,vs,h1,h2,h3,h4,h5,h6⟩:=Qm1 (P:=P) (W:=W) (n:=fuel) (c:=P.cellsOf e) (e:=e) (a:=a) len (fun i hi=>by
       have:=hread i hi;have hx:elems[i]?=some elems[i]:=Zn1 (by omega);rw[hx] at this;cases hc:W.cells? 0 (a.add (i*P.cellsOf e)) (P.cellsOf e) with
       |none=>rw[hc] at this;cases this
       |some cs=>rw[hc] at this;exact⟨cs,rfl,ih e cs _ he this⟩)
      refine⟨[.iS ys.flatten ys.length false],.inr ⟨ys,rfl,by omega,h2⟩,.cons ?_ .nil,rfl⟩;simp only[Rel];exact⟨a,cap,vs,by rw[h1],by omega,(fun h=>by cases h),Q9g h6,h3,h4⟩
   |struct fs=>
    simp only[Zok,Zor] at hbt;obtain⟨xs,n,hn,_,hl,hxl,hread⟩:=DataW.trod_struct hu h;cases hn;obtain⟨ys,g1,g2,g3⟩:=Qhb (P:=P) (W:=W) (n:=fuel) (cs:=cs) fs.toList 0 (by rw[hl];exact hbt.1) (fun f hf=>by
     obtain⟨i,hi⟩:=Zos.1 hf;have hi' :fs[i]?=some f:=by simpa using hi
     have hil:i<fs.size:=(Zoa.1 hi').1;have:=hread i f hi';have hx:xs[i]?=some xs[i]:=Zn1 (by omega);rw[hx] at this
     exact ih _ _ _ (by simpa using hbt.2 f hf) this)
    exact⟨ys,g1,by simpa using g2,g3⟩
   |array k e=>
    simp only[Zok,beq_iff_eq] at hbt;obtain⟨xs,n,hn,_,hl,hxl,hread⟩:=DataW.trod_array hu h;cases hn;obtain⟨ys,g1,g2,g3⟩:=Qhl (P:=P) (W:=W) (n:=fuel) (c:=P.cellsOf e) (e:=e) (cs:=cs) k 0 (fun j _ hj=>by
     have:=hread j (by omega);have hx:xs[j]?=some xs[j]:=Zn1 (by omega);rw[hx] at this
     exact ih _ _ _ (by simpa using hbt.2) this) (by rw[hl,hbt.1];simp)
    exact⟨ys,g1,by simpa using g2,g3⟩
   |_=>cases hbt
def Qf1(P:Program)(n:Nat)(t:TypeId)(x:V):Prop:=
 match P.underlying t with
 |some (.struct _)|some (.array _ _)=>∃cs,x= .agg cs/\Jc P n t cs
 |_=>Jc P n t [x]
def Qkr(P:Program):List TypeId->List V->Prop
 |[],xs=>xs=[]
 |t::ts,xs=>∃n y r,Qf1 P n t y/\Qkr P ts r/\xs=y::r
theorem Qtb(hb:Q2o P book=true):∀{ts:List TypeId} {vs:List Value} {ds:List (DataW H)} {ps:List MemPlace},(∀t∈ts,t∈book)->
 DataW.TrodAll enc P W 0 (fun _=>true) true ts vs ds ps->(∀(j:Nat) t v,ts[j]?=some t->vs[j]?=some v->∃w r base,Value.okWide P w r base t v)->
 ∃xs,Qkr P ts xs/\Qh (Qkm P W) xs vs
 |[],[],[],_,_,_,_=>⟨[],rfl,.nil⟩
 |[],_::_,_,_,_,h,_=>h.elim
 |[],[],_::_,_,_,h,_=>h.elim
 |_::_,[],_,_,_,h,_=>h.elim
 |_::_,_::_,[],_,_,h,_=>h.elim
 |t::ts,v::vs,d::ds,ps,ht,h,hok=>by
  obtain⟨p,q,⟨fuel,h1⟩,h2,_⟩:=h;obtain⟨ys,g1,g2,g3⟩:=Qi5 hb fuel t _ _ (ht t (by simp)) h1;obtain⟨xs,k1,k2⟩:=Qtb hb (fun u hu=>ht u (by simp[hu])) h2 (fun j u x hu hx=>hok (j+1) u x hu hx);obtain⟨w,r,base,hw⟩:=hok 0 t v rfl rfl;by_cases hagg:∃cs:Array Value,v= .agg cs/\(match P.underlying t with|some (.struct _)|some (.array _ _)=>True|_=>False)
  . obtain⟨cs,rfl,hm⟩:=hagg;refine⟨.agg ys::xs,⟨fuel,_,_,?_,k1,rfl⟩,.cons ?_ k2⟩
    . unfold Qf1;split
      . exact⟨ys,rfl,g1⟩
      . exact⟨ys,rfl,g1⟩
      . rename_i q1 q2;split at hm
        . rename_i fs hh;exact absurd hh (q1 fs)
        . rename_i k e hh;exact absurd hh (q2 k e)
        . exact hm.elim
    . simp only[Rel];exact⟨cs.toList,rfl,g2⟩
  . have hne:∀fs,P.underlying t≠some (.struct fs):=by
     intro fs hu;unfold Value.okWide at hw;rw[hu] at hw;obtain⟨cs,rfl,_⟩:=hw;exact hagg ⟨cs,rfl,by rw[hu];trivial⟩
    have hne2:∀k e,P.underlying t≠some (.array k e):=by intro k e hu;unfold Value.okWide at hw;rw[hu] at hw;obtain⟨cs,rfl,_⟩:=hw;exact hagg ⟨cs,rfl,by rw[hu];trivial⟩
    have hv:v.cells.toList=[v]:=by
     cases v with
     |agg cs=>
      exfalso;have hbt:=Zor.1 hb t (ht t (by simp));cases hu:P.underlying t with
      |none=>rw[hu] at hbt;cases hbt
      |some d=>cases d<;>first
       |(rw[hu] at hbt;cases hbt;done)
       |exact hne _ hu
       |exact hne2 _ _ hu
       |(simp[Value.okWide,hu,Cell.okWide,Cell.ok] at hw;done)
     |_=>rfl
    rw[hv] at g2;cases ys with
    |nil=>exact absurd g2 (by simp[Qh])
    |cons y r=>
     obtain⟨v',r',e,q1,q2⟩:=Qh.cons_iff.1 g2;cases e;cases r with
     |cons z r=>exact absurd q2 (by intro h;have:=h.length;simp at this)
     |nil=>
      refine⟨y::xs,⟨fuel,_,_,?_,k1,rfl⟩,.cons q1 k2⟩;unfold Qf1;split
      . rename_i fs hh;exact absurd hh (hne fs)
      . rename_i k e hh;exact absurd hh (hne2 k e)
      . exact g1
end
section
variable {P : Program} {pol : Pol}
theorem Sim.start(W:World):Sim W.heap.size (fun _ _=>False) [] (Qkm P W) where
 dom:=fun f s=>rfl
 bsz:=Zn6 _
 fb:=fun _ _ h=>h.elim
 fmod:=fun _ _ h=>h
 modsz:=fun _ _ h=>h.elim
 obj:=fun f s o h=>by simp[Qd] at h
 nreg:=fun f s n x h=>by cases h
 inj:=fun f s o _ _ _ _ h=>by simp[Qd] at h
theorem Qqj(ok:Okay P pol){f:FuncId}{xs:List V}{args:Array Value}{W:World}{b:Bool}{H' :Heap}(h:Qn P pol f xs []=some (.ret (.bool b),H'))
 (hr:Qh (Qkm P W) xs args.toList):Calls P f args W fun e W' =>e= .returned (.bool b)/\RowKit.Below W.heap.size W W' :=by
 have:=((Qed ok).1 f xs [] _ H' h).2 W.heap.size (fun _ _=>False) (Qkm P W) args.toList (Sim.start W) rfl hr;refine this.mono ?_;rintro e w' ⟨E',rfl,⟨c,rfl,hc⟩,S',X,_⟩;simp only[Rel] at hc;subst hc;exact⟨rfl,X.rest.2.1,X.rest.1,X.rest.2.2,X.size,X.old⟩
theorem Qjb{H:Type}{enc:TypeId×Value->H}(hl:laidOutB P=true){W W' :World}(hb:RowKit.Below W.heap.size W W'):∀{ts:List TypeId} {vs:List Value} {ds:List (DataW H)} {ps:List MemPlace},
 (∀t∈ts,P.readableRec t=true/\t<P.types.size)->DataW.TrodAll enc P W 0 (fun _=>true) true ts vs ds ps->(∀x∈ps,x.block<W.heap.size)->DataW.TrodAll enc P W' 0 (fun b=>decide (b<W.heap.size)) true ts vs ds ps
 |[],[],[],_,_,h,_=>h
 |[],_::_,_,_,_,h,_=>h.elim
 |[],[],_::_,_,_,h,_=>h.elim
 |_::_,[],_,_,_,h,_=>h.elim
 |_::_,_::_,[],_,_,h,_=>h.elim
 |t::ts,v::vs,d::ds,ps,ht,h,hlt=>by
  obtain⟨p,q,h1,h2,rfl⟩:=h;exact⟨p,q,RowKit.Below.trod hl (ht t (by simp)).1 (ht t (by simp)).2 h1 hb (fun x hx=>hlt x (by simp[hx])),Qjb hl hb (fun u hu=>ht u (by simp[hu])) h2 (fun x hx=>hlt x (by simp[hx])),rfl⟩
theorem Qhu{H:Type}{enc:TypeId×Value->H}{W:World}{base:Nat}{sp:Nat->Bool}{hd:Bool}:∀{ts:List TypeId} {vs:List Value} {ds:List (DataW H)} {ps:List MemPlace},
 DataW.TrodAll enc P W base sp hd ts vs ds ps->ds.length=ts.length
 |[],[],[],_,_=>rfl
 |[],_::_,_,_,h=>h.elim
 |[],[],_::_,_,h=>h.elim
 |_::_,[],_,_,h=>h.elim
 |_::_,_::_,[],_,h=>h.elim
 |t::ts,v::vs,d::ds,ps,h=>by
  obtain⟨p,q,h1,h2,rfl⟩:=h;simp[Qhu h2]
theorem Qv4{H:Type}{enc:TypeId×Value->H}(ok:Okay P pol)(hl:laidOutB P=true){f:FuncId}{fn:Func}{ts book:List TypeId}{tb:TypeId}(hts:fn.params.toList=ts)(hrt:fn.resultTypes.toList=[tb])
 (htb:P.underlying tb=some .bool)(hbook:Q2o P book=true)(hin:ts.all (fun t=>book.contains t&&P.readableRec t&&decide (t<P.types.size))=true)
 {s:ChangeSpec}(hv:s.vars=[])(hs:∀ds:List (DataW H),ds.length=ts.length->(s.fn H ds).results=[.lit (.bool true)]/\(s.fn H ds).args=ds/\(s.fn H ds).vars=[])
 (hlaw:∀xs,Qkr P ts xs->∃H',Qn P pol f xs []=some (.ret (.bool true),H')){apart fresh handsOn:Bool}
 {W:World}{base:Nat}{args:Array Value}{ds gs:List (DataW H)}{before:List MemPlace}
 (hval:∀(j:Nat) t v,fn.params[j]?=some t->args[j]?=some v->Value.okWide P W .any base t v)
 (hW:DataW.Whole enc P fn.params.toList s.vars apart W args.toList ds gs before):
 Calls P f args W fun e W' =>∃v,e= .returned v/\s.post enc P fn apart fresh handsOn false W args v W' :=by
 have hin' :∀t∈ts,t∈book/\P.readableRec t=true/\t<P.types.size:=by intro t ht;have:=Zor.1 hin t ht;simp only[Zok,decide_eq_true_eq] at this;exact⟨by simpa using this.1.1,this.1.2,this.2⟩
 have hW' :=hW;have hlt:=hW.lt;obtain⟨p,q,hA,hV,rfl,hfz,hnd⟩:=hW;rw[hv] at hV;have hg:gs=[]/\q=[]:=by
  cases gs with
  |nil=>exact⟨rfl,hV⟩
  |cons g gs=>exact hV.elim
 obtain⟨rfl,rfl⟩:=hg;rw[hts] at hA;obtain⟨xs,h1,h2⟩:=Qtb hbook (fun t ht=>(hin' t ht).1) hA (fun j t v ht hv=>⟨W,.any,base,hval j t v (by rw[<-Zot,hts];exact ht) (by simpa using hv)⟩);obtain⟨H',hc⟩:=hlaw xs h1;refine(Qqj ok hc h2).mono ?_;rintro e W' ⟨rfl,hb⟩;refine⟨_,rfl,?_⟩;obtain⟨k1,k2,k3⟩:=hs ds (Qhu hA);refine⟨ds,[],p++[],[],p,[],hW',?_,?_,?_,?_,fun h=>by cases h⟩
 . rw[Zou,k1,hrt];have hsz:fn.resultTypes.size=1:=by rw[<-Zov,hrt];rfl
   rw[hsz];exact ChangeShapes.trodAll_mk1 (RowKit.shut_bool htb true)
 . rw[Zou,k2,hts];exact Qjb hl hb (fun t ht=>(hin' t ht).2) hA (fun x hx=>hlt x (by simpa using hx))
 . rw[Zou,k3,hv];rfl
 . exact hb.frame _
end
section
variable {P : Program} {pol : Pol} {C : Call} {L : Kg -> Kz} {fn fr : Nat} {ops : Array Oper} {r : List Oper} {t : List V} {H : Heap} {d : Option Nat} {ty u : TypeId} {ps : String} {af : Array Edge} {x y z : Operand}
theorem Qkt{op:Op}{j:Nat}{want:Bool}:Zp P pol C fn fr ops ({dst:=d,op:=op,type:=ty,pos:=ps,after:=af,guard:=some (j,want)}::r) t H=
 match((ops[j]?).bind (·.dst)).bind (t[·]?) with
 |some (.bool b)=>if b==want then Zp P pol C fn fr ops ({dst:=d,op:=op,type:=ty,pos:=ps,after:=af,guard:=none}::r) t H else Zp P pol C fn fr ops r (Q1 t d nov) H
 |some (.tuple [])=>Zp P pol C fn fr ops r (Q1 t d nov) H
 |_=>none:=by
 have e:Z1 ops t {dst:=d,op:=op,type:=ty,pos:=ps,after:=af,guard:=some (j,want)}=match((ops[j]?).bind (·.dst)).bind (t[·]?) with
  |some (.bool b)=>some (b==want)
  |some (.tuple [])=>some false
  |_=>none:=rfl
 simp only[Zp,e];generalize((ops[j]?).bind (·.dst)).bind (t[·]?)=s;cases s with
 |none=>rfl
 |some v=>
  cases v with
  |bool b=>cases b<;>cases want<;>rfl
  |tuple l=>cases l<;>rfl
  |_=>rfl
theorem Q7e{op:Op}:Zp P pol C fn fr ops ({dst:=d,op:=op,type:=ty,pos:=ps,after:=af,guard:=none}::r) t H=
 match Zv P (pol.mt fn) fr (Qd H) (rho t) {dst:=d,op:=op,type:=ty,pos:=ps,after:=af,guard:=none} with
 |some (.val v w)=>Zp P pol C fn fr ops r (Q1 t d v) (wr H w)
 |some (.panic v)=>some (.panic v,t,H)
 |some (.call f args)=>(match callOp pol C fn fr d f args H with
  |some (.ret v,H')=>Zp P pol C fn fr ops r (Q1 t d v) H'
  |some (.pan v,H')=>some (.panic v,t,H')
  |none=>none)
 |some (.round f s args)=>(match C none (.yield f s::args) H with
  |some (.ret v,H')=>Zp P pol C fn fr ops r (Q1 t d v) H'
  |_=>none)
 |none=>none:=by
 simp only[Zp,Z1,Zi];cases Zv P (pol.mt fn) fr (Qd H) (rho t) {dst:=d,op:=op,type:=ty,pos:=ps,after:=af,guard:=none} with
 |none=>rfl
 |some s=>
  cases s with
  |val v w=>rfl
  |panic v=>rfl
  |call f args=>
   simp only;cases callOp pol C fn fr d f args H with
   |none=>rfl
   |some q=>obtain⟨q,H'⟩:=q;cases q<;>rfl
  |round f s args=>
   simp only;cases C none (.yield f s::args) H with
   |none=>rfl
   |some q=>obtain⟨q,H'⟩:=q;cases q<;>rfl
inductive It where
 |code(c:Code)
 |ops(a:Array Oper)(l:List Oper)
 |opsT(a:Array Oper)(l:List Oper)(T:List FP)
 |block(id:Nat)
def U(P:Program)(pol:Pol)(C:Call)(L:Kg->Kz)(fn fr:Nat):List It->Ex->List V->Heap->Out
 |[],e,t,H=>some (e,t,H)
 | .code c::k,e,t,H=>(match e with
   | .normal=>(Ze P pol C L fn fr c t H).bind fun x=>U P pol C L fn fr k x.1 x.2.1 x.2.2
   |e=>U P pol C L fn fr k e t H)
 | .ops a l::k,e,t,H=>(match e with
   | .normal=>(Zp P pol C fn fr a l t H).bind fun x=>U P pol C L fn fr k x.1 x.2.1 x.2.2
   |e=>U P pol C L fn fr k e t H)
 | .opsT a l T::k,e,t,H=>(match e with
   | .normal=>(Zb P pol C fn fr a l t H).bind fun x=>if okT (Region.before a) (loud (T.reverse++x.2.2)) then U P pol C L fn fr k .normal x.1 x.2.1 else none
   |e=>U P pol C L fn fr k e t H)
 | .block id::k,e,t,H=>(match e with
   | .exit i=>if i=id then U P pol C L fn fr k .normal t H else U P pol C L fn fr k (.exit i) t H
   |e=>U P pol C L fn fr k e t H)
section
variable {k : List It}
theorem Qwd(c:Code):Ze P pol C L fn fr c t H=U P pol C L fn fr [.code c] .normal t H:=by
 simp only[U];cases Ze P pol C L fn fr c t H with
 |none=>rfl
 |some x=>rfl
theorem u_nil{e:Ex}:U P pol C L fn fr [] e t H=some (e,t,H):=rfl
theorem u_seq{a b:Code}:U P pol C L fn fr (.code (.seq a b)::k) .normal t H=U P pol C L fn fr (.code a:: .code b::k) .normal t H:=by
 simp only[U,Ze];cases Ze P pol C L fn fr a t H with
 |none=>rfl
 |some x=>obtain⟨e,t1,H1⟩:=x;cases e<;>rfl
theorem Zaq{id:Nat}{l:List Oper}:U P pol C L fn fr (.code (.region id l.toArray false)::k) .normal t H=U P pol C L fn fr (.ops l.toArray l::k) .normal t H:=by simp only[U,Ze,Zn5,if_false]
theorem u_draw{id:Nat}{l:List Oper}:U P pol C L fn fr (.code (.region id l.toArray true)::k) .normal t H=U P pol C L fn fr (.opsT l.toArray l []::k) .normal t H:=by
 simp only[U,Ze,if_true];cases Zb P pol C fn fr l.toArray l t H with
 |none=>rfl
 |some x=>
  obtain⟨t1,H1,T1⟩:=x;by_cases h:okT (Region.before l.toArray) (loud T1)=true
  . simp[h]
  . simp[h]
theorem Q6b{a:Array Oper}:U P pol C L fn fr (.ops a []::k) .normal t H=U P pol C L fn fr k .normal t H:=rfl
theorem Q0q{a:Array Oper}{T:List FP}:U P pol C L fn fr (.opsT a [] T::k) .normal t H=if okT (Region.before a) (loud T.reverse) then U P pol C L fn fr k .normal t H else none:=by simp only[U,Zb,Zow,Zou]
theorem u_skip:U P pol C L fn fr (.code .skip::k) .normal t H=U P pol C L fn fr k .normal t H:=rfl
theorem u_ret:U P pol C L fn fr (.code .ret::k) .normal t H=U P pol C L fn fr k .ret t H:=rfl
theorem u_exit{id:Nat}:U P pol C L fn fr (.code (.exit id)::k) .normal t H=U P pol C L fn fr k (.exit id) t H:=rfl
theorem Qz9{c:Code}:U P pol C L fn fr (.code c::k) .ret t H=U P pol C L fn fr k .ret t H:=rfl
theorem Qw7{c:Code}{i:Nat}:U P pol C L fn fr (.code c::k) (.exit i) t H=U P pol C L fn fr k (.exit i) t H:=rfl
theorem Qu7{c:Code}{v:V}:U P pol C L fn fr (.code c::k) (.panic v) t H=U P pol C L fn fr k (.panic v) t H:=rfl
theorem Qqp{i:Nat}:U P pol C L fn fr (.block i::k) .normal t H=U P pol C L fn fr k .normal t H:=rfl
theorem Qzi{i:Nat}:U P pol C L fn fr (.block i::k) .ret t H=U P pol C L fn fr k .ret t H:=rfl
theorem Qr0{i:Nat}{v:V}:U P pol C L fn fr (.block i::k) (.panic v) t H=U P pol C L fn fr k (.panic v) t H:=rfl
theorem Qvy{i j:Nat}:U P pol C L fn fr (.block i::k) (.exit j) t H=if j=i then U P pol C L fn fr k .normal t H else U P pol C L fn fr k (.exit j) t H:=rfl
theorem Zch{id:Nat}{b:Code}:U P pol C L fn fr (.code (.block id b)::k) .normal t H=U P pol C L fn fr (.code b:: .block id::k) .normal t H:=by
 simp only[U,Ze];cases Ze P pol C L fn fr b t H with
 |none=>rfl
 |some x=>
  obtain⟨e,t1,H1⟩:=x;cases e<;>first|rfl|(simp only[Zow];split<;>rfl)
def round(P:Program)(pol:Pol)(C:Call)(L:Kg->Kz)(fn fr:Nat)(b:Code):Kg:=fun t H=>match forget pol fn fr (Zt b) t H with
 |some (t,H)=>(match Z0 b with
  |none=>[Ze P pol C L fn fr b t H]
  |some x=>(match Y8 (Qd H) (rho t x) with
   |some cs=>cs.map fun c=>Je P pol C L fn fr b c.1 c.2 t H
   |none=>[none]))
 |none=>[none]
theorem Zbw{a:Array Oper}{op:Op}{j:Nat}{want b:Bool}(h:((a[j]?).bind (·.dst)).bind (t[·]?)=some (.bool b)):
 U P pol C L fn fr (.ops a ({dst:=d,op:=op,type:=ty,pos:=ps,after:=af,guard:=some (j,want)}::r)::k) .normal t H=
   if b=want then U P pol C L fn fr (.ops a ({dst:=d,op:=op,type:=ty,pos:=ps,after:=af,guard:=none}::r)::k) .normal t H else U P pol C L fn fr (.ops a r::k) .normal (Q1 t d nov) H:=by
 simp only[U];rw[Qkt,h];simp only;cases b<;>cases want<;>rfl
theorem Zdc{a:Array Oper}{op:Op}:U P pol C L fn fr (.ops a ({dst:=d,op:=op,type:=ty,pos:=ps,after:=af,guard:=none}::r)::k) .normal t H=
 match Zv P (pol.mt fn) fr (Qd H) (rho t) {dst:=d,op:=op,type:=ty,pos:=ps,after:=af,guard:=none} with
 |some (.val v w)=>U P pol C L fn fr (.ops a r::k) .normal (Q1 t d v) (wr H w)
 |some (.panic v)=>U P pol C L fn fr k (.panic v) t H
 |some (.call f args)=>(match callOp pol C fn fr d f args H with
  |some (.ret v,H')=>U P pol C L fn fr (.ops a r::k) .normal (Q1 t d v) H'
  |some (.pan v,H')=>U P pol C L fn fr k (.panic v) t H'
  |none=>none)
 |some (.round f s args)=>(match C none (.yield f s::args) H with
  |some (.ret v,H')=>U P pol C L fn fr (.ops a r::k) .normal (Q1 t d v) H'
  |_=>none)
 |none=>none:=by
 simp only[U];rw[Q7e];cases Zv P (pol.mt fn) fr (Qd H) (rho t) {dst:=d,op:=op,type:=ty,pos:=ps,after:=af,guard:=none} with
 |none=>rfl
 |some s=>
  cases s with
  |val v w=>rfl
  |panic v=>rfl
  |call f args=>
   simp only;cases callOp pol C fn fr d f args H with
   |none=>rfl
   |some q=>obtain⟨q,H'⟩:=q;cases q<;>rfl
  |round f s args=>
   simp only;cases C none (.yield f s::args) H with
   |none=>rfl
   |some q=>obtain⟨q,H'⟩:=q;cases q<;>rfl
theorem u_if{c:Operand}{a b:Code}:U P pol C L fn fr (.code (.cond c a b)::k) .normal t H=
 match rho t c with
 | .bool v=>if v=true then U P pol C L fn fr (.code a::k) .normal t H else U P pol C L fn fr (.code b::k) .normal t H
 |_=>none:=by
 simp only[U,Ze];cases rho t c with
 |bool v=>cases v<;>rfl
 |_=>rfl
theorem u_when{a:Array Oper}{op:Op}{j:Nat}{want:Bool}:
 U P pol C L fn fr (.ops a ({dst:=d,op:=op,type:=ty,pos:=ps,after:=af,guard:=some (j,want)}::r)::k) .normal t H=
   match((a[j]?).bind (·.dst)).bind (t[·]?) with
   |some (.bool b)=>if b=want then U P pol C L fn fr (.ops a ({dst:=d,op:=op,type:=ty,pos:=ps,after:=af,guard:=none}::r)::k) .normal t H else U P pol C L fn fr (.ops a r::k) .normal (Q1 t d nov) H
   |some (.tuple [])=>U P pol C L fn fr (.ops a r::k) .normal (Q1 t d nov) H
   |_=>none:=by
 cases h:((a[j]?).bind (·.dst)).bind (t[·]?) with
 |none=>simp only[U];rw[Qkt,h];rfl
 |some v=>
  cases v with
  |bool b=>exact Zbw h
  |tuple l=>simp only[U];rw[Qkt,h];cases l<;>rfl
  |_=>simp only[U];rw[Qkt,h];rfl
end
end
section
variable {P : Program} {pol : Pol} {C : Call} {fn fr : Nat} {t : List V} {H : Heap} {u : TypeId} {x y : Operand} {k : IntKind} {m n : Int} {g : Get} {mt : Nat -> Bool}
theorem b_add:Zq P .add u x y (.int k m) (.int k n)=some (.int k (k.wrap (m+n))):=by simp only[Zq,Qfe,if_true]
theorem b_sub:Zq P .sub u x y (.int k m) (.int k n)=some (.int k (k.wrap (m-n))):=by simp only[Zq,Qfe,if_true]
theorem b_mul:Zq P .mul u x y (.int k m) (.int k n)=some (.int k (k.wrap (m*n))):=by simp only[Zq,Qfe,if_true]
theorem b_eql:Zq P .eql u x y (.int k m) (.int k n)=some (.bool (m==n)):=by simp only[Zq,Qfe,if_true]
theorem b_neq:Zq P .neq u x y (.int k m) (.int k n)=some (.bool (m !=n)):=by simp only[Zq,Qfe,if_true]
theorem b_lss:Zq P .lss u x y (.int k m) (.int k n)=some (.bool (decide (m<n))):=by simp only[Zq,Qfe,if_true]
theorem b_leq:Zq P .leq u x y (.int k m) (.int k n)=some (.bool (decide (m<=n))):=by simp only[Zq,Qfe,if_true]
theorem b_gtr:Zq P .gtr u x y (.int k m) (.int k n)=some (.bool (decide (m>n))):=by simp only[Zq,Qfe,if_true]
theorem b_geq:Zq P .geq u x y (.int k m) (.int k n)=some (.bool (decide (m>=n))):=by simp only[Zq,Qfe,if_true]
theorem b_sadd{a b:List UInt8}:Zq P .add u x y (.str a) (.str b)=binS .add a b:=rfl
theorem b_seql{a b:List UInt8}:Zq P .eql u x y (.str a) (.str b)=some (.bool (a==b)):=rfl
theorem b_sneq{a b:List UInt8}:Zq P .neq u x y (.str a) (.str b)=some (.bool (!(a==b))):=rfl
theorem oc_int:Z5 (.int k n)= .int k n:=rfl
theorem Zds{b:Bool}:Z5 (.bool b)= .bool b:=rfl
theorem oc_str{s:ByteArray}:Z5 (.string s)= .str s.data.toList:=rfl
theorem Qyv:Z5 (.slice none 0 0)= .nS:=rfl
theorem Q4w:Z5 (.pointer none)= .nP:=rfl
theorem Q45:Z5 (.map none)= .nM:=rfl
theorem Q08:Z5 .nilFunc= .nF:=rfl
theorem Qz6:Z5 .nilIface= .nI:=rfl
theorem Qgm{d:TypeDesc}{q:Nat}(h:P.underlying u=some d)(hs:sz P u=some q)(ha:Qn7 d=false)(cs:List V)(o:Nat):Q3 P u cs o=cs[o]?:=by simp only[Q3,h,hs,ha,Zn5,if_false]
theorem ia_of{e:TypeId}{q:Nat}(h:P.underlying u=some (.slice e))(hs:sz P e=some q)(cs:List V)(len:Nat)(full:Bool):
 Qm P u (.iS cs len full) (.int k n)=if 0<=n/\n<len/\cs.length=len*q/\0<q then some (.iptr cs (n.toNat*q)) else none:=by
 simp only[Qm,h,hs]
theorem Qh5{e:TypeId}(h:P.underlying u=some (.slice e))(cs:List V)(len:Nat)(full:Bool):Ku P g u (.iS cs len full)=some (.int .i64 len):=by simp only[Ku,h]
theorem Ql9{e:TypeId}(h:P.underlying u=some (.slice e)):Ku P g u .nS=some (.int .i64 0):=by simp only[Ku,h]
theorem ln_str(h:P.underlying u=some .string)(s:List UInt8):Ku P g u (.str s)=some (.int .i64 s.length):=by simp only[Ku,h]
theorem bi_len{ts:List TypeId}{d:Option Nat}{v:V}:builtinV P mt fr g d .len (u::ts).toArray [v]=(Ku P g u v).map fun v=> .val v none:=rfl
theorem bi_max{ts:Array TypeId}{d:Option Nat}{v:V}{l:List V}:builtinV P mt fr g d .max ts (v::l)=(Qip true v l).map fun v=> .val v none:=by cases l<;>rfl
theorem bi_min{ts:Array TypeId}{d:Option Nat}{v:V}{l:List V}:builtinV P mt fr g d .min ts (v::l)=(Qip false v l).map fun v=> .val v none:=by cases l<;>rfl
theorem mx_nil{v:V}{b:Bool}:Qip b v []=some v:=rfl
theorem mx_one{b:Bool}{l:List V}:Qip b (.int k m) (.int k n::l)=Qip b (.int k (if b then(if n>m then n else m) else(if n<m then n else m))) l:=rfl
theorem Qtc:∀(v:V),v.refs (fun _ _=>false)=false:=by intro v;refine V.rec (motive_1:=fun v=>v.refs (fun _ _=>false)=false) (motive_2:=fun l=>Qi (fun _ _=>false) l=false) ?_ ?_ ?_ ?_ ?_ ?_ ?_ ?_ ?_ ?_ ?_ ?_ ?_ ?_ ?_ ?_ ?_ ?_ ?_ ?_ ?_ ?_ ?_ ?_ v<;>intros<;>simp_all[V.refs,Qi]
end
theorem Qkk:∀(l:List V),Qi (fun _ _=>false) l=false
 |[]=>rfl
 |x::l=>by simp[Qi,Qtc x,Qkk l]
theorem Qpr:∀(l:List (V×V)),Qhk (fun _ _=>false) l=false
 |[]=>rfl
 |(a,b)::l=>by simp[Qhk,Qtc,Qpr l]
theorem Q1p(o:O):o.refs (fun _ _=>false)=false:=by
 cases o with
 |iter m a b c=>cases m<;>rfl
 |_=>simp[O.refs,Qkk,Qpr]
theorem Qnp:∀(f:Frame),Zg (fun _ _=>false) f=true
 |[]=>rfl
 |(a,o)::r=>by simp[Zg,Q1p,Qnp r]
theorem Qmx:∀(H:Heap),Q2 (fun _ _=>false) H=true
 |[]=>rfl
 |f::r=>by simp[Q2,Qnp,Qmx r]
theorem Qt0:∀(f:Frame),Ju (fun _=>false) f=f
 |[]=>rfl
 |(a,o)::r=>by simp[Ju,Qt0 r]
theorem Qm4{α:Type}(f:α->α)(h:∀x,f x=x):∀(l:List α) (i:Nat),l.modify i f=l
 |[],i=>by simp
 |x::l,0=>by simp[h]
 |x::l,i+1=>by simp[Qm4 f h l i]
theorem Zx{pol:Pol}{fn fr r:Nat}{kt:List Nat}{t:List V}{H:Heap}(h:pol.keep fn r=some (kt,[]))(hm:pol.move fn r=none:=by rfl):forget pol fn fr r t H=some (Jg kt t 0,H):=by
 have e:(fun f s:Nat=>f==fr&&([]:List Nat).contains s)=fun _ _=>false:=by funext f s;simp
 have e2:(fun s:Nat=>([]:List Nat).contains s)=fun _=>false:=by funext s;simp
 unfold forget forgetK;rw[h];simp only[e,e2];rw[Qkk,Qm4 _ Qt0,Qmx];simp only[Zn5,if_false,if_true,hm]
theorem Z7{pol:Pol}{fn fr r:Nat}{kt ds:List Nat}{t:List V}{H:Heap}(hk:pol.keep fn r=some (kt,ds))(h1:Qi (fun f s=>f==fr&&ds.contains s) (Jg kt t 0)=false)(h2:Q2 (fun f s=>f==fr&&ds.contains s) (H.modify fr (Ju fun s=>ds.contains s))=true)(hm:pol.move fn r=none:=by rfl):
 forget pol fn fr r t H=some (Jg kt t 0,H.modify fr (Ju fun s=>ds.contains s)):=by
 simp only[forget,forgetK,hk,h1,h2,if_true,Zn5,if_false,hm]
section
variable {P : Program} {pol : Pol} {C : Call} {L : Kg -> Kz} {fn fr : Nat} {t : List V} {H : Heap}
theorem Q7t{b:Code}{t1:List V}{H1:Heap}(hn:Z0 b=none)(h:forget pol fn fr (Zt b) t H=some (t1,H1)):round P pol C L fn fr b t H=[U P pol C L fn fr [.code b] .normal t1 H1]:=by simp only[round,h,hn];rw[Qwd]
def Qqs(P:Program)(F:Func)(b:Nat):Out->Option (Rt×Heap)
 |some (.normal,t,H)|some (.ret,t,H)=>(match Qcb P F t H with
  |some v=>some (.ret v,Yk b v H)
  |none=>none)
 |some (.panic v,_,H)=>some (.pan v,Yk b v H)
 |_=>none
theorem Q8j{f:FuncId}{F:Func}{c:Code}{args:List V}{r:Rt×Heap}(hF:P.funcs[f]?=some F)(hc:F.body=some c)
 (h:Qqs P F H.length (Qea (pol.settle f) (U P pol (Qn P pol) Z4 f H.length [.code c] .normal (args++List.replicate (F.ntmps-args.length) .bad) (H++[[]])))=some r):Qn P pol f args H=some r:=by
 refine Zbb ?_;show Qbk P pol (Qn P pol) Z4 f args H=some r;unfold Qbk;rw[hF];simp only[hc,Qwd];rw[<-h];rfl
theorem Zcp{f:FuncId}{F:Func}{c:Code}{args:List V}{r:Rt×Heap}(hF:P.funcs[f]?=some F)(hc:F.body=some c)
 (h:Qqs P F H.length (U P pol (Qn P pol) Z4 f H.length [.code c] .normal (args++List.replicate (F.ntmps-args.length) .bad) (H++[[]]))=some r)(hs:pol.settle f=[]:=by rfl):Qn P pol f args H=some r:=
 Q8j hF hc (by rw[hs,Qy5];exact h)
theorem Q2k{g:Get}{cs:List V}{n:Nat}{b:Bool}:frz g depth (.iS cs n b)=some (.iS cs n b):=rfl
theorem Qvl{g:Get}:frz g depth .nS=some .nS:=rfl
theorem Zd5{g:Get}{k:IntKind}{n:Int}:frz g depth (.int k n)=some (.int k n):=rfl
theorem Q7i{g:Get}{b:Bool}:frz g depth (.bool b)=some (.bool b):=rfl
theorem Zce{g:Get}{s:List UInt8}:frz g depth (.str s)=some (.str s):=rfl
theorem Qa{f:V->Option V}{x y:V}{l m:List V}(h:f x=some y)(h2:Q5 f l=some m):Q5 f (x::l)=some (y::m):=by simp only[Q5,h,h2]
theorem Qnl{dst:Option Nat}{f:FuncId}{args args' :List V}{v v' :V}{H' :Heap}(hp:pol.prim f=none)(hq:pol.pure fn f=true)(ha:Q5 (frz (fun _ _=>none) depth) args=some args')
 (h:C f args' []=some (.ret v,H'))(hv:frz (Qd H') depth v=some v'):callOp pol C fn fr dst f args H=some (.ret v',H):=by
 simp only[callOp,hp,hq,if_true,ha,h,hv,Zn2]
end
section
variable {P : Program} {pol : Pol} {C : Call} {L : Kg -> Kz} {fn fr : Nat} {t : List V} {H : Heap} {k : List It} {r : List Oper} {d : Option Nat} {ty : TypeId} {ps : String} {af : Array Edge} {x y : Operand}
def gd(a:Array Oper)(t:List V)(j:Nat):Option V:=((a[j]?).bind (·.dst)).bind (t[·]?)
end
end Go.AM
end
