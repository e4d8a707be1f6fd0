/- This file holds in one the texts An13; each says at its head what it proves. -/
import Derived.Test.YtmapmgfiamfocaaGreatT4
set_option linter.unusedSimpArgs false
set_option linter.unusedVariables false
section
namespace Go.AM
variable {P : Program} {E : Env} {B : Nat} {F : Nat -> Nat -> Prop} {H : Qg}
def Qv5(P:Program)(B:Nat)(F:Nat->Nat->Prop)(H:Qg)(E:Env)(st:Yv)(r:Result Next):Prop:=
 match st with
 | .val v w=>∃E' cv,Ext H.length B E E' /\Sim B F (wr H w) E' /\Rel E' v cv/\(r= .ok (.value cv) E'.w\/(r= .ok .skip E'.w/\cv=undef))
 | .call f args=>∃cargs,Qr E args cargs/\r=(callFunc f ⟨cargs⟩).run P E.w
 | .round f s args=>∃b cargs,E.mu f s=some b/\Qr E args cargs/\r=(Instr.yield b ⟨cargs⟩).run P E.w
 | .panic v=>∃cv,Rel E v cv/\r= .halt (.panic cv) E.w
theorem Yd.next{st:Yv}{s:Sem Value}(h:Yd B F H E st (s.run P E.w)):Qv5 P B F H E st ((do pure (Next.value (<-s)):Sem Next).run P E.w):=by obtain⟨v,w,E',cv,rfl,X,S',hr,hrun⟩:=h;exact⟨E',cv,X,S',hr,.inl (by simp only[Zie,hrun,Zid,Zif])⟩
theorem Qfc{ρ:Operand->V}{ρc:Operand->Value}(hρ:∀x,Rel E (ρ x) (ρc x)):∀(l:List Operand),Qr E (l.map ρ) (l.map ρc)
 |[]=> .nil
 |x::l=> .cons (hρ x) (Qfc hρ l)
theorem Qpg{ρ:Operand->V}{ρc:Operand->Value}(hρ:∀x,Rel E (ρ x) (ρc x))(x:Option Operand):RelO E (x.map ρ) (x.map ρc):=by
 cases x with
 |none=>trivial
 |some x=>exact hρ x
theorem Z8(S:Sim B F H E){v:V}{s:Sem Value}(h:∃c,s.run P E.w= .ok c E.w/\Rel E v c):Yd B F H E (.val v none) (s.run P E.w):=by obtain⟨c,h1,h2⟩:=h;exact Yd.same S h2 h1
theorem Qg6(place:Nat->Option (Nat×Nat)):∀(parts:List (Nat×Value)) (cells:Array Value) (us:List Value),Instr.fill place cells parts=some ⟨us⟩->us.length=cells.size
 |[],cells,us,h=>by cases h;rfl
 |(i,v)::rest,cells,us,h=>by
  simp only[Instr.fill] at h;split at h
  . cases h
  . split at h
    . cases h
    . rename_i off size _ hh;have:=Qg6 place rest _ us h;rw[this];rename_i hle _;have hle:off+v.cells.toList.length<=cells.toList.length:=by
       simp at hh;simp;omega
      have e:=Qjy off v.cells.toList cells.toList hle;have e2:(v.cells.zipIdx.foldl (fun cs x=>cs.setIfInBounds (off+x.2) x.1) cells)=⟨splice cells.toList off v.cells.toList⟩:=e;rw[e2];simp[Xf _ _ _ hle]
theorem Qxl(S:Sim B F H E){t:TypeId}{x y:V}{c:Value}
 (h:(match x with
   | .ptr f s o=>(match Qd H f s with
     |some (.cells xs)=>(Zf P t xs o)
     |_=>none)
   | .iptr cs o=>(Zf P t cs o)
   | .rptr cs o=>(Zf P t cs o)
   | .mp f s o len=>(match Qd H f s with
     |some (.mgrow xs k)=>if k=len then Zf P t xs o else none
     |_=>none)
   |_=>none)=some y)(hr:Rel E x c):∃v,(Instr.loadAt t c).run P E.w= .ok v E.w/\Rel E y v:=by
 split at h
 . rename_i f s o;split at h
   case h_2=>cases h
   rename_i xs hg;simp only[Rel] at hr;obtain⟨b,hb,rfl⟩:=hr;obtain⟨b2,cc,T,vs,rest,q1,_,q3,q4,q5,_,_,q8⟩:=S.lies hg;rw[hb] at q1;cases q1;obtain⟨v,h1,h2⟩:=Qb3 (w:=E.w) h q5 q8;rw[Zff] at h1;exact⟨v,by simp only[Instr.loadAt,Instr.sureAddr,Zie,Zif,Zid,h1],h2⟩
 . simp only[Rel] at hr;obtain⟨b,off,vs,rfl,r1,r2,_⟩:=hr;obtain⟨v,h1,h2⟩:=Qb3 (w:=E.w) h r2 r1.lies;exact⟨v,by simp only[Instr.loadAt,Instr.sureAddr,Zie,Zif,Zid,h1],h2⟩
 . simp only[Rel] at hr;obtain⟨b,off,vs,rfl,r1,r2⟩:=hr;obtain⟨v,h1,h2⟩:=Qb3 (w:=E.w) h r2 r1.lies;exact⟨v,by simp only[Instr.loadAt,Instr.sureAddr,Zie,Zif,Zid,h1],h2⟩
 . rename_i f s o len;split at h
   case h_2=>cases h
   rename_i xs k hg;split at h
   case isFalse=>cases h
   rename_i hk;subst hk;simp only[Rel] at hr;obtain⟨b,rfl,_,hreg⟩:=hr;obtain⟨b2,lo,hi,cc,T,vs,rest,q1,_,q3,_,q4,q5,_,_,q8⟩:=S.liesMg hg;obtain rfl:=(hreg _ _ _ _ q1).2 rfl;obtain⟨v,h1,h2⟩:=Qb3 (w:=E.w) h q5 q8;rw[Zff] at h1;exact⟨v,by simp only[Instr.loadAt,Instr.sureAddr,Zie,Zif,Zid,h1],h2⟩
 . cases h
theorem Qqi(S:Sim B F H E){t:TypeId}{f s o n k:Nat}{xs cs:List V}{x:V}{ca cx:Value}(hg:Qd H f s=some (.mgrow xs k))(hcs:x.cells=some cs)(hn:sz P t=some n)
 (h1:cs.length=n)(h2:o+n<=xs.length)(ra:Rel E (.mp f s o k) ca)(rx:Rel E x cx):
 ∃E',Ext H.length B E E' /\Sim B F (Qs H f s (.mgrow (splice xs o cs) k)) E' /\(Instr.storeAt t ca cx).run P E.w= .ok () E'.w:=by
 simp only[Rel] at ra;obtain⟨b,rfl,_,hreg⟩:=ra;obtain⟨b2,lo,hi,cc,T,vs,rest,q1,q2,q3,q3',q4,q5,q6,q7,_⟩:=S.liesMg hg;obtain rfl:=(hreg _ _ _ _ q1).2 rfl;obtain⟨us,hus,hrel,hsc⟩:=rx.cells hcs;have hul:=hrel.length;have hvl:=q5.length;have hfit:o+us.length<=vs.length:=by omega
 have hcsz:cc.size=vs.length+rest.length:=by have:=congrArg List.length q4;simpa using this
 have hst:=run_storeCells_at P b2 o T us 0 cc E.w q3 (by simp only[Zhd];omega) (Qbm hrel hsc);simp only[Zhd] at hst;obtain⟨X,S'⟩:=S.setMg hg q1 q3 k lo (.inr ⟨rfl,rfl⟩) (splice xs o cs) (splice vs o us) rest (by rw[Zfv,Xf _ _ _ hfit,hcsz]) (q5.splice hrel _) (Qct _ q7 hsc);refine⟨_,X,S',?_⟩;have hsz:¬(cx.cells.size≠n):=by rw[hus];simp;omega
 simp only[Instr.storeAt,Instr.sureAddr,storeVar,Zie,Zif,Zid,K8 hn];rw[hus] at hsz⊢;simp only[hsz,if_false,hst,Env.setMg];rw[<-Qba _ _ _ _ hfit,<-q4];rfl
theorem Qvv(S:Sim B F H E){t:TypeId}{f s o n:Nat}{xs cs:List V}{x:V}{ca cx:Value}(hg:Qd H f s=some (.cells xs))(hcs:x.cells=some cs)(hn:sz P t=some n)
 (h1:cs.length=n)(h2:o+n<=xs.length)(ra:Rel E (.ptr f s o) ca)(rx:Rel E x cx):
 ∃E',Ext H.length B E E' /\Sim B F (Qs H f s (.cells (splice xs o cs))) E' /\(Instr.storeAt t ca cx).run P E.w= .ok () E'.w:=by
 simp only[Rel] at ra;obtain⟨b,hb,rfl⟩:=ra;obtain⟨b2,cc,T,vs,rest,q1,q2,q3,q4,q5,q6,q7,_⟩:=S.lies hg;rw[hb] at q1;cases q1;obtain⟨us,hus,hrel,hsc⟩:=rx.cells hcs;have hul:=hrel.length;have hvl:=q5.length;have hfit:o+us.length<=vs.length:=by omega
 have hcsz:cc.size=vs.length+rest.length:=by have:=congrArg List.length q4;simpa using this
 have hst:=run_storeCells_at P b o T us 0 cc E.w q3 (by simp only[Zhd];omega) (Qbm hrel hsc);simp only[Zhd] at hst;obtain⟨X,S'⟩:=S.setCells hg hb q3 q4 q6 q2 (splice xs o cs) (splice vs o us) (q5.splice hrel _) (Qct _ q7 hsc) (Xf _ _ _ hfit);refine⟨_,X,S',?_⟩;have hsz:¬(cx.cells.size≠n):=by rw[hus];simp;omega
 simp only[Instr.storeAt,Instr.sureAddr,storeVar,Zie,Zif,Zid,K8 hn];rw[hus] at hsz⊢;simp only[hsz,if_false,hst,Env.setRow];rw[<-Qba _ _ _ _ hfit,<-q4];rfl
theorem Ql3{ρ:Operand->V}{ρc:Operand->Value}(hρ:∀x,Rel E (ρ x) (ρc x)){t e:TypeId}{n k:Nat}{z cs:List V}{ps:Array (Nat×Operand)}
 (hu:P.underlying t=some (.slice e))(hk:sz P e=some k)(hz:zeroCells P e=some z)(hlim:n*k<=16777216)(hzl:z.length=k)
 (hf:Bn (fun i=>some (i*k,k)) (if n*k=0 then[] else zerosN z n) (ps.toList.map fun p=>(p.1,ρ p.2))=some cs):
 ∃ws,(Instr.buildSlice t n (ps.map fun x=>(x.1,ρc x.2))).run P E.w= .ok (.slice (some ⟨E.w.heap.size,0,none⟩) n n) {E.w with heap:=E.w.heap.push (.cells ⟨ws⟩ e)}/\
  Qr E cs ws/\cs.all V.scalar=true/\ws.length=n*k:=by
 obtain⟨zv,vs,h1,h2,h3,h4⟩:=Kd hz E.w;have hvl:vs.length=k:=by rw[<-(h3 E).length];exact hzl
 have hlim' :¬(n*k>2^24):=by omega
 by_cases h0:n*k=0
 . rw[if_pos h0] at hf;obtain⟨ws,f1,f2,f3⟩:=Qc1 (fun i=>some (i*k,k)) (ps.toList.map fun p=>(p.1,ρ p.2)) _ [] ((ps.map fun x=>(x.1,ρc x.2)).toList) cs .nil rfl (by simp) (by
    intro i p c hp hc;simp only[Zhx,Zgl] at hp;simp only[Array.toList_map,Zhx,Zgl] at hc;obtain⟨q,hq,rfl⟩:=hp;obtain⟨q',hq',rfl⟩:=hc;rw[hq] at hq';cases hq'
    exact⟨rfl,hρ _⟩) hf
   have hwl:=Qg6 _ _ _ _ f1;refine⟨ws,?_,f2,f3,by rw[hwl,h0];rfl⟩;have e0:(Array.range 0).map (fun x=>(#[]:Array Value)[x%(#[]:Array Value).size]!)=⟨[]⟩:=by apply Array.ext';simp
   simp only[Instr.buildSlice,Zie,Qw hu,Zid,K8 hk,hlim',if_false];rw[if_pos h0];simp only[Zie,Zif,Zid,h0,e0,f1,Xk]
 . rw[if_neg h0] at hf;obtain⟨ws,f1,f2,f3⟩:=Qc1 (fun i=>some (i*k,k)) (ps.toList.map fun p=>(p.1,ρ p.2)) _ (zerosN vs n) ((ps.map fun x=>(x.1,ρc x.2)).toList) cs ((h3 E).zerosN n) (Qfw h4 n) (by simp) (by
    intro i p c hp hc;simp only[Zhx,Zgl] at hp;simp only[Array.toList_map,Zhx,Zgl] at hc;obtain⟨q,hq,rfl⟩:=hp;obtain⟨q',hq',rfl⟩:=hc;rw[hq] at hq';cases hq'
    exact⟨rfl,hρ _⟩) hf
   have hwl:=Qg6 _ _ _ _ f1;refine⟨ws,?_,f2,f3,by rw[hwl];simp[Kt,hvl]⟩;have e0:(Array.range (n*k)).map (fun x=>zv.cells[x%zv.cells.size]!)=⟨zerosN vs n⟩:=by rw[h2];have:=Qhu vs n;rw[hvl] at this;exact this
   simp only[Instr.buildSlice,Zie,Qw hu,Zid,K8 hk,hlim',if_false];rw[if_neg h0];simp only[Zie,h1,Zif,Zid];rw[e0,f1];simp only[Xk,Zie,Zid,Zif]
theorem Qpk(S:Sim B F H E){mt:Nat->Bool}{fr:Nat}(hfr:fr<H.length){dst:Option Nat}{b:Builtin}{ts:Array TypeId}(ty:TypeId)(consts:Array Bool){args:List V}{cargs:List Value}
 {st:Yv}(h:builtinV P mt fr (Qd H) dst b ts args=some st)(hl:Qr E args cargs):Qv5 P B F H E st ((builtin b ts ty consts ⟨cargs⟩).run P E.w):=by
 unfold builtinV at h;split at h
 . obtain⟨c1,r,rfl,h1,hl⟩:=Qr.cons_iff.1 hl;obtain⟨c2,r,rfl,h2,hl⟩:=Qr.cons_iff.1 hl;rw[Qr.nil_iff] at hl;subst hl;split at h
   case h_2=>cases h
   rename_i t t2 ht ht2;exact Yd.next (Qqe S hfr ty ht ht2 h h1 h2)
 . rename_i x;obtain⟨c1,r,rfl,h1,hl⟩:=Qr.cons_iff.1 hl;rw[Qr.nil_iff] at hl;subst hl;split at h
   case h_2=>cases h
   rename_i t ht;cases hb:Qaw P (Qd H) t x with
   |none=>rw[hb] at h;cases h
   |some v=>rw[hb] at h;cases h;exact Yd.next (Z8 S (Qx7 S ty ht hb h1))
 . rename_i x;obtain⟨c1,r,rfl,h1,hl⟩:=Qr.cons_iff.1 hl;rw[Qr.nil_iff] at hl;subst hl;split at h
   case h_2=>cases h
   rename_i t ht;cases hb:capV P t x with
   |none=>rw[hb] at h;cases h
   |some v=>rw[hb] at h;cases h;exact Yd.next (Z8 S (Qyw ty ht hb h1))
 . obtain⟨c1,r,rfl,h1,hl⟩:=Qr.cons_iff.1 hl;obtain⟨c2,r,rfl,h2,hl⟩:=Qr.cons_iff.1 hl;rw[Qr.nil_iff] at hl;subst hl;split at h
   case h_2=>cases h
   rename_i t ht;exact Yd.next (Qty S ty ht h h1 h2)
 . obtain⟨c1,r,rfl,h1,hl⟩:=Qr.cons_iff.1 hl;obtain⟨c2,r,rfl,h2,hl⟩:=Qr.cons_iff.1 hl;rw[Qr.nil_iff] at hl;subst hl;split at h
   case h_2=>cases h
   rename_i t ht;obtain⟨v,w,rfl,hall⟩:=Qqg S (ty:=ty) ht h h1 h2;obtain⟨E',cv,X,S',hr,hrun⟩:=hall _ rfl;refine Yd.next ⟨v,w,E',cv,rfl,X,?_,hr,hrun⟩;cases w<;>exact S'
 . obtain⟨c1,r,rfl,h1,hl⟩:=Qr.cons_iff.1 hl;rw[Qr.nil_iff] at hl;subst hl;split at h
   case h_2=>cases h
   rename_i t ht;exact Yd.next (Qtk S ty ht h h1)
 . rename_i x xs;obtain⟨c1,r,rfl,h1,hl⟩:=Qr.cons_iff.1 hl;cases hb:Qga false x xs with
   |none=>rw[hb] at h;cases h
   |some v=>rw[hb] at h;cases h;exact Yd.next (Z8 S (Qpd E.w xs r x v c1 hb h1 hl))
 . rename_i x xs;obtain⟨c1,r,rfl,h1,hl⟩:=Qr.cons_iff.1 hl;cases hb:Qga true x xs with
   |none=>rw[hb] at h;cases h
   |some v=>rw[hb] at h;cases h;exact Yd.next (Z8 S (Qo0 E.w xs r x v c1 hb h1 hl))
 . cases h
def Env.newIter(E:Env)(f0 s0:Nat)(mb:Option Nat)(since d:Nat):Env:=
 {w:=E.push (.mapIter mb since #[] since) d,mu:=upd E.mu f0 s0 (some E.w.heap.size),reg:=E.reg,mod:=E.mod,tab:=E.tab}
theorem Sim.newIter(S:Sim B F H E){f0 s0:Nat}(hf:f0<H.length)(hn:Qd H f0 s0=none)(m:Option (Nat×Nat))(mb:Option Nat)(since d:Nat)
 (hm:match m with|none=>mb=none|some x=>∃r,mb=some r/\E.mu x.1 x.2=some r):
 Ext H.length B E (E.newIter f0 s0 mb since d)/\Sim B F (Qs H f0 s0 (.iter m since [] since)) (E.newIter f0 s0 mb since d):=by
 have hmn:=S.mu_none hn;have X:Ext H.length B E (E.newIter f0 s0 mb since d):=by
  refine B5 S.bsz _ d _ _ _ ?_ ?_ ?_
  . intro f s b h;by_cases e:f=f0/\s=s0
    . rw[e.1,e.2,hmn] at h;cases h
    . rw[Zp _ _ e];exact h
  . exact fun f s n b lo hi _ h=>⟨n,b,lo,hi,h,.inr ⟨rfl,rfl,rfl,rfl⟩⟩
  . exact fun b i hb hm h=>hm h
 refine⟨X,S.step f0 s0 _ hf X (fun f s e=>Zp _ _ e) (by simp[Env.newIter,Q0]) (fun f s e=>rfl) ?_ ?_ ?_ ?_ ?_ ?_⟩
 . intro n x h;have:=S.reg_none hn;simp only[Env.newIter] at h;rw[this] at h;cases h
 . intro f s o b e ho hb;exact⟨K4 E _ d b (S.blk_lt ho hb),fun i h=>h⟩
 . exact fun b i h=>S.fmod b i h
 . intro b i h;simp only[Env.newIter,Env.push,Zfd] at h⊢;exact Zfe (S.modsz b i h)
 . refine⟨E.w.heap.size,mb,Q0 _ _ _ _,S.bsz,Kw E _ d,?_⟩;cases m with
   |none=>exact hm
   |some x=>
    obtain⟨r,h1,h2⟩:=hm;refine⟨r,h1,?_⟩;have hne:¬(x.1=f0/\x.2=s0):=fun e=>by rw[e.1,e.2,hmn] at h2;cases h2
    simp only[Env.newIter];rw[Zp _ _ hne];exact h2
 . intro f s o b e ho hb h;simp only[blk,Env.newIter,Q0,Zic] at h;have:=S.blk_lt ho hb;omega
def Env.newSIter(E:Env)(f0 s0:Nat)(l:List UInt8)(d:Nat):Env:=
 {w:=E.push (.stringIter ⟨⟨l⟩⟩ 0) d,mu:=upd E.mu f0 s0 (some E.w.heap.size),reg:=E.reg,mod:=E.mod,tab:=E.tab}
theorem Sim.newSIter(S:Sim B F H E){f0 s0:Nat}(hf:f0<H.length)(hn:Qd H f0 s0=none)(l:List UInt8)(d:Nat):
 Ext H.length B E (E.newSIter f0 s0 l d)/\Sim B F (Qs H f0 s0 (.siter l 0)) (E.newSIter f0 s0 l d):=by
 have hmn:=S.mu_none hn;have X:Ext H.length B E (E.newSIter f0 s0 l d):=by
  refine B5 S.bsz _ d _ _ _ ?_ ?_ ?_
  . intro f s b h;by_cases e:f=f0/\s=s0
    . rw[e.1,e.2,hmn] at h;cases h
    . rw[Zp _ _ e];exact h
  . exact fun f s n b lo hi _ h=>⟨n,b,lo,hi,h,.inr ⟨rfl,rfl,rfl,rfl⟩⟩
  . exact fun b i hb hm h=>hm h
 refine⟨X,S.step f0 s0 _ hf X (fun f s e=>Zp _ _ e) (by simp[Env.newSIter,Q0]) (fun f s e=>rfl) ?_ ?_ ?_ ?_ ?_ ?_⟩
 . intro n x h;have:=S.reg_none hn;simp only[Env.newSIter] at h;rw[this] at h;cases h
 . intro f s o b e ho hb;exact⟨K4 E _ d b (S.blk_lt ho hb),fun i h=>h⟩
 . exact fun b i h=>S.fmod b i h
 . intro b i h;simp only[Env.newSIter,Env.push,Zfd] at h⊢;exact Zfe (S.modsz b i h)
 . exact⟨E.w.heap.size,Q0 _ _ _ _,S.bsz,Kw E _ d⟩
 . intro f s o b e ho hb h;simp only[blk,Env.newSIter,Q0,Zic] at h;have:=S.blk_lt ho hb;omega
def Env.setSIter(E:Env)(b:Nat)(l:List UInt8)(pos:Nat):Env:=
 {E with w:={E.w with heap:=E.w.heap.setIfInBounds b (.stringIter ⟨⟨l⟩⟩ pos)}}
theorem Qat(E:Env)(b:Nat)(l:List UInt8)(pos b' :Nat)(h:b' ≠b):(E.setSIter b l pos).w.heap[b']?=E.w.heap[b']?:=by simp only[Env.setSIter];rw[Zh6 (by omega)]
theorem Sim.setSIter(S:Sim B F H E){f0 s0 b:Nat}{l:List UInt8}{pos:Nat}(ho:Qd H f0 s0=some (.siter l pos))(hmu:E.mu f0 s0=some b)
 (hb:E.w.heap[b]?=some (.stringIter ⟨⟨l⟩⟩ pos))(hB:B<=b)(pos' :Nat):
 Ext H.length B E (E.setSIter b l pos')/\Sim B F (Qs H f0 s0 (.siter l pos')) (E.setSIter b l pos'):=by
 have hlt:b<E.w.heap.size:=(Zfb.1 hb).1;have hself:(E.setSIter b l pos').w.heap[b]?=some (.stringIter ⟨⟨l⟩⟩ pos'):=by simp[Env.setSIter,hlt]
 have hcell:∀i,E.w.cell? ⟨b,i,none⟩=none:=fun i=>by simp[World.cell?,hb]
 have X:Ext H.length B E (E.setSIter b l pos'):=by
  refine⟨by simp[Env.setSIter],?_,?_,fun _ _ _ _ h=>h,fun _ _ _ _ h=>h,fun f s n b lo hi _ _ h=>⟨n,b,lo,hi,h,.inr ⟨rfl,rfl,rfl,rfl⟩⟩,?_,⟨rfl,rfl,rfl⟩,rfl,fun b' h=>by rw[Qat E b _ _ b' (by rintro rfl;rw[hb] at h;cases h)];exact h⟩
  . intro b' T n h;by_cases e:b' =b
    . subst e;simp[World.shape?,hb] at h
    . rw[Kr (Qat E b _ _ b' e)];exact h
  . intro b' i v _ h;by_cases e:b' =b
    . subst e;rw[hcell] at h;cases h
    . rw[K5 (Qat E b _ _ b' e)];exact h
  . intro b' hb';exact Qat E b _ _ b' (by omega)
 have hblk:blk E f0 s0 (.siter l pos)=some b:=hmu;refine⟨X,S.step f0 s0 _ (Q9 ho) X (fun f s e=>rfl) (by simp[Env.setSIter,hmu]) (fun f s e=>rfl) ?_ ?_ ?_ ?_ ?_ ?_⟩
 . intro n x h;obtain⟨_,q1,q2⟩:=S.nreg f0 s0 n x h;rw[ho] at q1;cases q1;cases q2
 . intro f s o b' e ho' hb';refine⟨?_,fun i h=>h⟩;have hne:b' ≠b:=fun e' =>e (S.inj f s o f0 s0 _ b' ho' ho hb' (e' ▸hblk));exact Qat E b _ _ b' hne
 . exact fun b i h=>S.fmod b i h
 . intro b' i h;simp only[Env.setSIter,Array.size_setIfInBounds];exact S.modsz b' i h
 . exact⟨b,hmu,hB,hself⟩
 . intro f s o b' e ho' hb' h;simp only[blk,Env.setSIter,hmu,Zic] at h;subst h;exact e (S.inj f s o f0 s0 _ b ho' ho hb' hblk)
theorem Qv0(S:Sim B F H E){x:V}{c:Value}{ty:TypeId}{st:Yv}(h:nextS (Qd H) x=some st)(hr:Rel E x c):Yd B F H E st ((Instr.next c true ty).run P E.w):=by
 unfold nextS at h;split at h
 case h_2=>cases h
 rename_i f s;simp only[Rel] at hr;obtain⟨b,hb,rfl⟩:=hr;split at h
 case h_2=>cases h
 rename_i l pos hi;obtain⟨b',g1,g2,g3⟩:=S.obj f s _ hi;rw[hb] at g1;cases g1;have hlt:b<E.w.heap.size:=(Zfb.1 g3).1;have Qd:(getObj b).run P E.w= .ok (.stringIter ⟨⟨l⟩⟩ pos) E.w:=by simp[getObj,Sem.run,g3]
 have hsz:(⟨⟨l⟩⟩:ByteArray).size=l.length:=rfl;split at h
 . rename_i hp;cases h;obtain⟨X,S'⟩:=S.setSIter hi hb g3 g2 (pos+(Utf8.decode ⟨⟨l⟩⟩ pos).2);refine⟨_,_,_,.tuple #[.bool true,.int .i64 pos,.int .i32 (Utf8.decode ⟨⟨l⟩⟩ pos).1],rfl,X,S',?_,?_⟩
   . simp only[Rel];exact⟨_,rfl,.cons (by simp[Rel]) (.cons (by simp[Rel]) (.cons (by simp[Rel]) .nil))⟩
   . have Qs:(setObj b (.stringIter ⟨⟨l⟩⟩ (pos+(Utf8.decode ⟨⟨l⟩⟩ pos).2))).run P E.w= .ok () (E.setSIter b l (pos+(Utf8.decode ⟨⟨l⟩⟩ pos).2)).w:=by
      simp[setObj,Sem.run,g3,Env.setSIter]
     simp only[Instr.next,Zie,Qd,Zid,hsz,if_pos hp,Qs,Zif];rfl
 . rename_i hp;cases h;refine Yd.same S (cv:= .tuple #[.bool false]) (by simp only[Rel];exact⟨_,rfl,.cons (by simp[Rel]) .nil⟩) ?_;simp only[Instr.next,Zie,Qd,Zid,hsz,if_neg hp,Zif]
theorem Qtf(S:Sim B F H E){fr:Nat}(hfr:fr<H.length){dst:Option Nat}{t:TypeId}{x:V}{c:Value}{st:Yv}(h:rangeV P (Qd H) fr dst t x=some st)(hr:Rel E x c):
 Qv5 P B F H E st ((do pure (Next.value (<-Instr.range t c)):Sem Next).run P E.w):=by
 unfold rangeV at h;split at h
 . rename_i l hu;obtain⟨d,hd,hg,rfl⟩:=Qap h;simp only[Rel] at hr;subst hr;obtain⟨X,S'⟩:=S.newSIter hfr hg l E.w.drawn;refine Yd.next ⟨_,_,_,.pointer (some ⟨E.w.heap.size,0,none⟩),rfl,X,S',by simp only[Rel];exact⟨_,Q0 _ _ _ _,rfl⟩,?_⟩;simp[Instr.range,Qw hu,Env.newSIter,Env.push]
 . rename_i kk ee hu;obtain⟨d,hd,hg,rfl⟩:=Qap h;simp only[Rel] at hr;subst hr;obtain⟨X,S'⟩:=S.newIter hfr hg none none 0 E.w.drawn rfl;refine Yd.next ⟨_,_,_,.pointer (some ⟨E.w.heap.size,0,none⟩),rfl,X,S',by simp only[Rel];exact⟨_,Q0 _ _ _ _,rfl⟩,?_⟩;simp[Instr.range,Qw hu,Env.newIter,Env.push]
 . rename_i kk ee f s hu;split at h
   case h_2=>cases h
   rename_i es bs clk hm;obtain⟨d,hd,hg,rfl⟩:=Qap h;simp only[Rel] at hr;obtain⟨b,hb,rfl⟩:=hr;obtain⟨b',ces,g1,g2,g3,g4,g5⟩:=S.obj f s _ hm;rw[hb] at g1;cases g1;obtain⟨X,S'⟩:=S.newIter hfr hg (some (f,s)) (some b) clk E.w.drawn ⟨b,rfl,hb⟩;refine Yd.next ⟨_,_,_,.pointer (some ⟨E.w.heap.size,0,none⟩),rfl,X,S',by simp only[Rel];exact⟨_,Q0 _ _ _ _,rfl⟩,?_⟩;simp[Instr.range,Qw hu,Kl g3,Env.newIter,Env.push]
 . cases h
theorem Qio{b:Nat}:∀{es:List (V×V)} {ces:List MapEntry} {e:V×V},Qb9 b es (ces.map (·.born))=some e->Js E es ces->∃ce,ces.find? (·.born==b)=some ce/\Rel E e.1 ce.key/\Rel E e.2 ce.val
 |[],ces,e,h,r=>by simp only[Js] at r;subst r;cases h
 |(k,x)::es,ces,e,h,r=>by
  obtain⟨ce,r',rfl,h1,h2,h3⟩:=r;simp only[Zfn,Qb9] at h;split at h
  . rename_i hb;cases h;exact⟨ce,by simp[hb],h1,h2⟩
  . rename_i hb;obtain⟨ce',q1,q2⟩:=Qio h h3;exact⟨ce',by rw[List.find?_cons_of_neg (by simpa using hb)];exact q1,q2⟩
theorem Qsk(S:Sim B F H E){x v:V}{c:Value}(h:Qgg (Qd H) x=some v)(hr:Rel E x c):∃cv,(Instr.entry c).run P E.w= .ok cv E.w/\Rel E v cv:=by
 unfold Qgg at h;split at h
 case h_2=>cases h
 rename_i f s;split at h
 case h_2=>cases h
 rename_i m since seen stepped hi;split at h
 case h_2=>cases h
 rename_i es bs clk b hm hl;split at h
 case isFalse=>cases h
 rename_i hclk;subst hclk;cases he:Qb9 b es bs with
 |none=>rw[he] at h;cases h
 |some e=>
  rw[he] at h;cases h;simp only[Rel] at hr;obtain⟨bi,hbi,rfl⟩:=hr;obtain⟨bi',mb,g1,g2,g3,r,rfl,g4⟩:=S.obj f s _ hi;rw[hbi] at g1;cases g1;obtain⟨bm,ces,k1,k2,k3,k4,k5⟩:=S.obj m.1 m.2 _ hm;rw[g4] at k1;cases k1;subst k5;obtain⟨ce,q1,q2,q3⟩:=Qio he k4;have hback:(⟨seen⟩:Array Nat).back?=some b:=by rw[<-Array.getLast?_toList];exact hl
  have hf:ces.find? (·.born==b)=some ce:=by rw[<-Array.find?_toList];exact q1
  have Qd:(getObj bi).run P E.w= .ok (.mapIter (some r) since ⟨seen⟩ clk) E.w:=by simp only[getObj,Sem.run,g3]
  refine⟨.tuple #[ce.key,ce.val],?_,by simp only[Rel];exact⟨[ce.key,ce.val],rfl,.cons q2 (.cons q3 .nil)⟩⟩;simp[Instr.entry,Qd,hback,Kl k3,hf]
theorem Js.setVal{es:List (V×V)}{bs:List Nat}{b:Int}{x:V}{cx:Value}(hx:Rel E x cx):∀{es es' :List (V×V)} {ces:List MapEntry},Qff b x es (ces.map (·.born))=some es' ->Js E es ces->
 ∃i,ces.findIdx? (fun e=>(e.born:Int)==b)=some i/\Js E es' (ces.modify i fun e=>{e with val:=cx})
 |[],es',ces,h,r=>by simp only[Js] at r;subst r;cases h
 |(k,y)::es,es',ces,h,r=>by
  obtain⟨ce,r',rfl,h1,h2,h3⟩:=r;simp only[Zfn,Qff] at h;split at h
  . rename_i hb;cases h;refine⟨0,by simp[List.findIdx?_cons,hb],?_⟩;simp only[List.modify_cons,if_true];exact⟨_,_,rfl,h1,hx,h3⟩
  . rename_i hb;cases hp:Qff b x es (r'.map (·.born)) with
    |none=>rw[hp] at h;cases h
    |some es2=>
     rw[hp] at h;cases h;obtain⟨i,q1,q2⟩:=Js.setVal (es:=es) (bs:=bs) hx hp h3;refine⟨i+1,by simp[List.findIdx?_cons,hb,q1],?_⟩;simp only[List.modify_succ_cons];exact⟨_,_,rfl,h1,h2,q2⟩
theorem Qmi(cx:Value):∀(l:List MapEntry) (j:Nat),(l.modify j fun e=>{e with val:=cx}).map (·.born)=l.map (·.born)
 |[],j=>by simp
 |e::l,0=>by simp
 |e::l,j+1=>by simp[Qmi cx l j]
theorem Qkq(S:Sim B F H E){t:TypeId}{m s x:V}{cm cs cx:Value}{st:Yv}(h:entryStoreV (Qd H) m s x=some st)(rm:Rel E m cm)(rs:Rel E s cs)(rx:Rel E x cx):
 ∃v wr,st= .val v wr/\∀r,(Instr.entryStore t cm cs cx).run P E.w=r->∃E' cv,Ext H.length B E E' /\Sim B F (match wr with|none=>H|some (f,s,o)=>Qs H f s o) E' /\Rel E' v cv/\r= .ok () E'.w/\cv=undef:=by
 unfold entryStoreV at h;split at h
 case h_2=>cases h
 rename_i f sl k b;split at h
 case h_2=>cases h
 rename_i es bs clk hg;simp only[Rel] at rm rs;obtain⟨bb,hb,rfl⟩:=rm;subst rs;obtain⟨b',ces,g1,g2,g3,g4,g5⟩:=S.obj f sl _ hg;rw[hb] at g1;cases g1;subst g5;cases hp:Qff b x es (ces.toList.map (·.born)) with
 |none=>rw[hp] at h;cases h
 |some es2=>
  rw[hp] at h;cases h;refine⟨_,_,rfl,?_⟩;rintro r rfl;obtain⟨i,q1,q2⟩:=Js.setVal (es:=es) (bs:=[]) rx hp g4;obtain⟨X,S'⟩:=S.setMap hg hb g3 g2 (ces.toList.modify i fun e=>{e with val:=cx}) clk q2;rw[Qmi] at S';refine⟨_,undef,X,S',by simp[Rel],?_,rfl⟩;have hidx:ces.findIdx? (fun e=>(e.born:Int)==b)=some i:=by cases ces with|mk l=>simpa using q1
  simp only[Instr.entryStore,Zie,Zid,Kl g3,Qd3,hidx,Qbr g3];congr 1;simp only[Env.setMap];congr 2;congr 1;apply Array.ext';simp
theorem Qna(S:Sim B F H E){t:TypeId}{m k:V}{cm ck:Value}{st:Yv}(h:mapEntryV P (Qd H) t m k=some st)(rm:Rel E m cm)(rk:Rel E k ck):Yd B F H E st ((Instr.mapEntry t cm ck).run P E.w):=by
 unfold mapEntryV at h;split at h
 case h_2=>cases h
 rename_i kt e hu;split at h
 case h_2=>cases h
 rename_i kd z hk hz;split at h
 case isFalse=>cases h
 rename_i hp;split at h
 case h_2=>cases h
 rename_i f s;split at h
 case h_2=>cases h
 rename_i es bs clk hg;simp only[Rel] at rm;obtain⟨b,hb,rfl⟩:=rm;obtain⟨b',ces,g1,g2,g3,g4,g5⟩:=S.obj f s _ hg;rw[hb] at g1;cases g1;split at h
 . rename_i j y hf;split at h
   case h_2=>cases h
   rename_i bj hbj;cases h;obtain⟨r',h1,h2⟩:=Ku hp rk es ces.toList 0 _ hf g4;rcases h2 with⟨h2,_⟩|⟨j',x',v,h2,rfl,h3,_,h5⟩
   . cases h2
   cases h2;obtain⟨e',q1,_,q2⟩:=Qwl hp h1 rk;simp only[Nat.sub_zero] at q1;have hce:ces[j]?=some e' :=by simpa using q1
   have hkey:((ces[j]?).map (·.key)).getD ck=e'.key:=by rw[hce];rfl
   have q2' :Instr.sameBits 10000 (((ces[j]?).map (·.key)).getD ck) ck=true:=by rw[hkey];exact q2
   have hborn:(Option.map (fun x:MapEntry=>(x.born:Int)) ces[j]?).getD 0=(bj:Int):=by rw[<-g5,Zhx,q1] at hbj;rw[hce];simp only[Ze4,Zic] at hbj;simp[hbj]
   have hv:Js E (es.set j (k,y)) (ces.toList.modify j fun e=>{e with key:=ck}):=by
    have:=Js.set (x:=y) (cx:=v) j g4 rk h3;have e2:(ces.toList.modify j fun e=>{e with key:=ck,val:=v})=ces.toList.modify j fun e=>{e with key:=ck}:=by
     apply List.ext_getElem?;intro i;simp only[Ze2];by_cases hij:j=i
     . subst hij;rw[q1];simp only[if_true,Option.map_eq_map,Ze4];congr 1;have:e'.val=v:=by
        have:=Qm0 h1;simp only[Nat.sub_zero] at this;rw[q1] at this;simpa using this
       rw[<-this]
     . simp[hij]
    rw[e2] at this;exact this
   obtain⟨X,S'⟩:=S.setMap hg hb g3 g2 (ces.toList.modify j fun e=>{e with key:=ck}) clk hv;rw[Qtw,g5] at S';refine⟨_,_,_,.tuple #[v,goInt bj],rfl,X,S',?_,?_⟩
   . simp only[Rel];exact⟨[v,goInt bj],rfl,.cons (Rel.mono X S.lt _ _ h3) (.cons (by simp[Rel,goInt]) .nil)⟩
   . simp only[Instr.mapEntry,Zie,Qw hu,Zid,Kl g3,Kq E.w _ hk hp rk,Xv E.w hk h1,Instr.keyThatStays,q2',if_true,Zif,Qbr g3,hborn];congr 1;simp only[Env.setMap];congr 2;congr 1;apply Array.ext';simp
 . rename_i hf;cases h;obtain⟨r',h1,h2⟩:=Ku hp rk es ces.toList 0 _ hf g4;rcases h2 with⟨_,rfl⟩|⟨_,_,_,h2,_⟩
   . obtain⟨X,S'⟩:=S.setMap hg hb g3 g2 (ces.toList++[{key:=ck,val:=z,born:=clk}]) (clk+1) (Js.append g4 (Js.one rk (Bp E z)));rw[Zgw,g5] at S';refine⟨_,_,_,.tuple #[z,goInt clk],rfl,X,S',?_,?_⟩
     . simp only[Rel];exact⟨[z,goInt clk],rfl,.cons (Bp _ z) (.cons (by simp[Rel,goInt]) .nil)⟩
     . simp only[Instr.mapEntry,Zie,Qw hu,Zid,Kl g3,Kq E.w _ hk hp rk,Xv E.w hk h1,Qb6 hz,Qbr g3,Zif];congr 1;simp only[Env.setMap];congr 2;congr 1;apply Array.ext';simp
   . cases h2
 . cases h
set_option maxHeartbeats 4000000 in
theorem Qgh(S:Sim B F H E){mt:Nat->Bool}{fr:Nat}(hfr:fr<H.length){ρ:Operand->V}{ρc:Operand->Value}(hρ:∀x,Rel E (ρ x) (ρc x)){o:Oper}{st:Yv}
 (h:K0 P mt fr (Qd H) ρ o=some st):Qv5 P B F H E st ((execOp ρc o).run P E.w):=by
 unfold K0 at h;unfold execOp;split at h
 .
  rename_i x ho;simp only[ho];cases h;exact⟨E,_,Ext.refl _ _ _,S,hρ x,.inl rfl⟩
 . rename_i x ho;simp only[ho];cases h;exact⟨E,_,Ext.refl _ _ _,S,hρ x,.inl rfl⟩
 .
  rename_i c a b ho;simp only[ho];split at h
  case h_2=>cases h
  rename_i t hc;cases h;have:=hρ c;rw[hc] at this;simp only[Rel] at this;refine⟨E,if t then ρc a else ρc b,Ext.refl _ _ _,S,?_,.inl ?_⟩
  . cases t
    . exact hρ b
    . exact hρ a
  . simp only[this,asBool,Zie,Zif,Zid]
 .
  rename_i t ho;simp only[ho];cases hz:zeroCells P t with
  |none=>rw[hz] at h;cases h
  |some z=>
   rw[hz] at h;obtain⟨zv,vs,h1,h2,h3,h4⟩:=Kd hz E.w;refine Yd.next ?_;have:=Qme S hfr t h (h3 E) h4;simp only[Instr.alloc,Zie,h1,Zid,newVar,h2,Xk,Zif];exact this
 .
  rename_i t x ho;simp only[ho];cases hz:(ρ x).cells with
  |none=>rw[hz] at h;cases h
  |some z=>
   rw[hz] at h;obtain⟨vs,h2,h3,h4⟩:=(hρ x).cells hz;refine Yd.next ?_;simp only[Zf4] at h;split at h
   case h_2=>cases h
   split at h
   . have:=Qme S hfr t h h3 h4;simp only[Instr.box,Zie,Zid,newVar,h2,Xk,Zif];exact this
   . split at h
     case isFalse=>cases h
     rename_i hp;cases h;obtain⟨X,S',hrow⟩:=S.newRow vs t (0,0) E.w.drawn;simp only[Instr.box,Zie,Zid,newVar,h2,Xk,Zif];refine⟨_,_,_,.pointer (some ⟨E.w.heap.size,0,none⟩),rfl,X,S',?_,by simp[Env.newRow,Env.push]⟩;simp only[Rel];exact⟨_,0,vs,rfl,hrow,Qr.mono X S.lt _ _ h3,hp⟩
 .
  rename_i t ps ho;simp only[ho];cases hb:Qac P t (ps.toList.map fun p=>(p.1,ρ p.2)) with
  |none=>rw[hb] at h;cases h
  |some v=>
   rw[hb] at h;cases h;refine Yd.next (Z8 S ?_);refine Qsh E.w hb _ (by simp) ?_;intro i p c hp hc;simp only[Zhx,Zgl] at hp;simp only[Array.getElem?_map,Zgl] at hc;obtain⟨q,hq,rfl⟩:=hp;obtain⟨q',hq',rfl⟩:=hc;have:q=q' :=by
    have:ps[i]?=some q:=by simpa using hq
    rw[this] at hq';cases hq';rfl
   subst this;exact⟨rfl,hρ _⟩
 .
  rename_i t n ps ho;simp only[ho];split at h
  case h_2=>cases h
  rename_i e hu;split at h
  case h_2=>cases h
  rename_i k z hk hz;split at h
  case isFalse=>cases h
  rename_i hlim;split at h
  case h_2=>cases h
  rename_i cs hf;split at h
  case h_2=>cases h
  rename_i d hd;obtain⟨ws,hrun,f2,f3,hwl⟩:=Ql3 hρ hu hk hz hlim.1 hlim.2 hf;refine Yd.next ?_;show Yd B F H E st ((Instr.buildSlice t n (ps.map fun x=>(x.1,ρc x.2))).run P E.w);rw[hrun];split at h
  . obtain⟨d',hd',hg,rfl⟩:=Qap h;rw[hd] at hd';cases hd';obtain⟨X,S'⟩:=S.newCells hfr hg cs ws [] e E.w.drawn f2 f3;refine⟨_,_,_,.slice (some ⟨E.w.heap.size,0,none⟩) n n,rfl,X,S',?_,by simp[Env.newCells,Env.push]⟩;simp only[Rel];refine⟨E.w.heap.size,n,e,(ws++[]).length,Q0 _ _ _ _,rfl,Ze8 _,(fun q hq=>by cases hq;rfl),?_,?_,fun hq=>by cases hq⟩
    . have:=Kw E (.cells ⟨ws++[]⟩ e) E.w.drawn;simp only[Env.newCells,World.shape?,this];simp
    . simp;omega
  . split at h
    case isFalse=>cases h
    rename_i hp;cases h;obtain⟨X,S',hrow⟩:=S.newRow ws e (0,0) E.w.drawn;refine⟨_,_,_,.slice (some ⟨E.w.heap.size,0,none⟩) n n,rfl,X,S',?_,by simp[Env.newRow,Env.push]⟩;simp only[Rel];exact⟨_,n,ws,rfl,Ze8 _,fun _=>rfl,.inr ⟨rfl,hrow⟩,Qr.mono X S.lt _ _ f2,hp⟩
 .
  rename_i t a ho;simp only[ho];have key:∃y,st= .val y none/\(match ρ a with
   | .ptr f s o=>(match Qd H f s with
     |some (.cells xs)=>(Zf P t xs o)
     |_=>none)
   | .iptr cs o=>(Zf P t cs o)
   | .rptr cs o=>(Zf P t cs o)
   | .mp f s o len=>(match Qd H f s with
     |some (.mgrow xs k)=>if k=len then Zf P t xs o else none
     |_=>none)
   |_=>none)=some y:=by
   split at h
   . rename_i f s q heq;split at h
     . rename_i xs hg;cases hq:Zf P t xs q with
       |none=>rw[hq] at h;cases h
       |some y=>rw[hq] at h;cases h;exact⟨y,rfl,by first|rfl|(rw[heq];simp only[hg,hq])⟩
     . cases h
   . rename_i cs q heq;cases hq:Zf P t cs q with
     |none=>rw[hq] at h;cases h
     |some y=>rw[hq] at h;cases h;exact⟨y,rfl,by rw[heq];exact hq⟩
   . rename_i cs q heq;cases hq:Zf P t cs q with
     |none=>rw[hq] at h;cases h
     |some y=>rw[hq] at h;cases h;exact⟨y,rfl,by rw[heq];exact hq⟩
   . rename_i f s q len heq;split at h
     . rename_i xs k hg;split at h
       . rename_i hk;cases hq:Zf P t xs q with
         |none=>rw[hq] at h;cases h
         |some y=>rw[hq] at h;cases h;exact⟨y,rfl,by rw[heq];simp only[hg,hk,if_true,hq]⟩
       . cases h
     . cases h
   . cases h
  obtain⟨y,rfl,hy⟩:=key;exact Yd.next (Z8 S (Qxl S hy (hρ a)))
 .
  rename_i t a x ho;simp only[ho];split at h
  case h_3=>cases h
  . rename_i f s q cs n hpa hcs hn;split at h
    case h_2=>cases h
    rename_i xs hg;split at h
    case isFalse=>cases h
    rename_i hh;cases h;have ra:=hρ a;rw[hpa] at ra;obtain⟨E',X,S',hrun⟩:=Qvv S hg hcs hn hh.1 hh.2 ra (hρ x);exact⟨E',undef,X,S',by simp[Rel],.inr ⟨by simp only[Zie,hrun,Zid,Zif],rfl⟩⟩
  . rename_i f s q len cs n hpa hcs hn;split at h
    case h_2=>cases h
    rename_i xs k hg;split at h
    case isFalse=>cases h
    rename_i hh;obtain⟨rfl,hh1,hh2⟩:=hh;cases h;have ra:=hρ a;rw[hpa] at ra;obtain⟨E',X,S',hrun⟩:=Qqi S hg hcs hn hh1 hh2 ra (hρ x);exact⟨E',undef,X,S',by simp[Rel],.inr ⟨by simp only[Zie,hrun,Zid,Zif],rfl⟩⟩
 .
  rename_i x ho;simp only[ho];have hx:=hρ x;split at h
  . rename_i f s q hq;cases h;rw[hq] at hx;have hx' :=hx;simp only[Rel] at hx;obtain⟨b,hb,e⟩:=hx;rw[e] at hx' ⊢;exact⟨E,_,Ext.refl _ _ _,S,hx',.inl rfl⟩
  . rename_i cs q hq;cases h;rw[hq] at hx;have hx' :=hx;simp only[Rel] at hx;obtain⟨b,off,vs,e,_⟩:=hx;rw[e] at hx' ⊢;exact⟨E,_,Ext.refl _ _ _,S,hx',.inl rfl⟩
  . rename_i cs q hq;cases h;rw[hq] at hx;have hx' :=hx;simp only[Rel] at hx;obtain⟨b,off,vs,e,_⟩:=hx;rw[e] at hx' ⊢;exact⟨E,_,Ext.refl _ _ _,S,hx',.inl rfl⟩
  . rename_i f s q len hq;cases h;rw[hq] at hx;have hx' :=hx;simp only[Rel] at hx;obtain⟨b,e,_⟩:=hx;rw[e] at hx' ⊢;exact⟨E,_,Ext.refl _ _ _,S,hx',.inl rfl⟩
  . rename_i f p q hq;cases h;rw[hq] at hx;have hx' :=hx;simp only[Rel] at hx;obtain⟨fs,cs,e,_⟩:=hx;rw[e] at hx' ⊢;exact⟨E,_,Ext.refl _ _ _,S,hx',.inl rfl⟩
  . rename_i fo so hq;cases h;rw[hq] at hx;have hx' :=hx;simp only[Rel] at hx;obtain⟨b,_,e⟩:=hx;rw[e] at hx' ⊢;exact⟨E,_,Ext.refl _ _ _,S,hx',.inl rfl⟩
  . rename_i t v hq;cases h;rw[hq] at hx;have hx' :=hx;simp only[Rel] at hx;obtain⟨c,e,_⟩:=hx;rw[e] at hx' ⊢;exact⟨E,_,Ext.refl _ _ _,S,hx',.inl rfl⟩
  . cases h
 .
  rename_i op t x y _ ho;simp only[ho];cases hb:X7 P op t x y (ρ x) (ρ y) with
  |none=>rw[hb] at h;cases h
  |some v=>rw[hb] at h;cases h;exact Yd.next (Z8 S (Qxo E.w hb (hρ x) (hρ y)))
 .
  rename_i op _ x ho;simp only[ho];cases hb:unV op (ρ x) with
  |none=>rw[hb] at h;cases h
  |some v=>rw[hb] at h;cases h;exact Yd.next (Z8 S (Qz6 hb (hρ x)))
 .
  rename_i s d x ho;simp only[ho];split at h
  . rename_i l hl;exact Yd.next (Quf S hfr hl h (hρ x))
  . exact Yd.next (Qo6 S h (hρ x))
 .
  rename_i t x ho;simp only[ho];have hx:=hρ x;split at h
  case h_2=>cases h
  rename_i n e hu;have run1:∀(a:Addr) (len cap:Nat),n<=len->(Instr.arrayAt t (.slice (some a) len cap)).run P E.w= .ok (.pointer (some a)) E.w:=by intro a len cap hle;simp only[Instr.arrayAt,Zie,Qw hu,Zid];rw[if_neg (by omega)];rfl
  split at h
  . rename_i k cs len _ hk hq;split at h
    case isFalse=>cases h
    rename_i hh;obtain⟨g1,g2,g3,g4⟩:=hh;cases h;rw[hq] at hx;simp only[Rel] at hx;obtain⟨a,cap,vs,e',_,_,r3,r4,r5⟩:=hx;rw[e'];refine Yd.next (Z8 S ⟨_,run1 a len cap g1,?_⟩);have hne:vs≠[]:=by intro e2;have:=r4.length;rw[e2,g3] at this;have:0<len*k:=Nat.mul_pos (by omega) g4;simp at*;omega
    rcases r3 with r3|⟨r3,r6⟩
    . exact absurd r3 hne
    . obtain⟨b,off,sp⟩:=a;simp only at r3;subst r3;simp only[Rel];exact⟨b,off,vs,rfl,r6,r4,r5⟩
  . rename_i k f s cs len e' hk hq;split at h
    case isFalse=>cases h
    rename_i hh;cases h;rw[hq] at hx;simp only[Rel] at hx;obtain⟨b,off,cap,vs,e2,_,r3,r4,_⟩:=hx;rw[e2];refine Yd.next (Z8 S ⟨_,run1 _ len cap hh.1,?_⟩);simp only[Rel];exact⟨b,off,vs,rfl,r3,r4,hh.2.2⟩
  . rename_i k f s q len _ e' hk hq;split at h
    case isFalse=>cases h
    rename_i hh;cases h;rw[hq] at hx;simp only[Rel] at hx;obtain⟨b,c,T,n',hb,e2,_⟩:=hx;rw[e2];refine Yd.next (Z8 S ⟨_,run1 _ len c hh.1,?_⟩);simp only[Rel];exact⟨b,hb,rfl⟩
  . cases h
 .
  rename_i t x ho;simp only[ho];split at h
  case h_1=>cases h
  case h_2=>cases h
  rename_i d hni hu;cases h;refine Yd.next (Z8 S ⟨.iface t (ρc x),?_,by simp only[Rel];exact⟨_,rfl,hρ x⟩⟩);simp only[Instr.makeInterface,Zie,Qw hu,Zid];cases d<;>first|rfl|exact absurd rfl (hni _)
 .
  rename_i fn a c ho;simp only[ho];cases h;refine Yd.next (Z8 S ⟨.func fn (a.map ρc) (c.map ρc),rfl,?_⟩);simp only[Rel];refine⟨a.toList.map ρc,c.toList.map ρc,?_,Qfc hρ _,Qfc hρ _⟩;congr 1
  . apply Array.ext';simp
  . apply Array.ext';simp
 .
  rename_i t hint ho;simp only[ho];have key:∀(x:Option Value) (kk ee:TypeId),P.underlying t=some (.map kk ee)->(∀v,x=some v->∃k n,v= .int k n)->new (Qd H) fr o.dst (.map [] [] 0) (fun d=> .map fr d)=some st->
   Qv5 P B F H E st ((do pure (Next.value (<-Instr.makeMap t x)):Sem Next).run P E.w):=by
   intro x kk ee hu hx hn;obtain⟨d,hd,hg,rfl⟩:=Qap hn;obtain⟨X,S'⟩:=S.newMap hfr hg E.w.drawn;refine Yd.next ⟨_,_,_,.map (some E.w.heap.size),rfl,X,S',by simp only[Rel];exact⟨_,Q0 _ _ _ _,rfl⟩,?_⟩;cases x with
   |none=>simp[Instr.makeMap,Env.newMap,Env.push]
   |some v=>
    obtain⟨k,n,rfl⟩:=hx v rfl;simp[Instr.makeMap,Qw hu,Qd3,Env.newMap,Env.push]
  split at h
  . rename_i kk ee hu;exact key none kk ee hu (fun v hv=>by cases hv) h
  . rename_i kk ee x hu;split at h
    case h_2=>cases h
    rename_i k n hq;have:=hρ x;rw[hq] at this;simp only[Rel] at this;exact key (some (ρc x)) kk ee hu (fun v hv=>by cases hv;exact⟨_,_,this⟩) h
  . cases h
 .
  rename_i t l c ho;simp only[ho];split at h
  case h_2=>cases h
  rename_i e hu;split at h
  case h_2=>cases h
  rename_i k by_ z il ic hk hb hz hl hc;split at h
  case isFalse=>cases h
  rename_i hh;obtain⟨g1,g2,g3,g4⟩:=hh;obtain⟨zv,vs,h1,h2,h3,h4⟩:=Kd hz E.w;have hvl:vs.length=k:=by rw[<-(h3 E).length];exact g4
  have rl:=hρ l;have rc:=hρ c;rw[hl] at rl;rw[hc] at rc;simp only[Rel] at rl rc;obtain⟨ti,hti,hbi⟩:=Qj6 hb E.w;obtain⟨r1,r2⟩:=Qc8 g3;have hwl:IntKind.i64.wrap il=il:=by rw[IntKind.wrap_i64];omega
  have hwc:IntKind.i64.wrap ic=ic:=by rw[IntKind.wrap_i64];omega
  have hbyc:((ic.toNat*by_:Nat):Int)=ic*(by_:Int):=by push_cast;rw[Int.toNat_of_nonneg (by omega)]
  have hbig:¬((by_:Int)*ic>2^48):=by rw[Int.mul_comm];omega
  have htoo:(decide (ic<0)||decide ((by_:Int)*ic>2^48))=false:=by simp only[Zf5,decide_eq_false_iff_not];exact⟨by omega,hbig⟩
  refine Yd.next ?_;have hrun:(Instr.makeSlice t (ρc l) (ρc c)).run P E.w= .ok (.slice (some ⟨E.w.heap.size,0,none⟩) il.toNat ic.toNat) {E.w with heap:=E.w.heap.push (.cells ⟨zerosN vs ic.toNat⟩ e)}:=by
   rw[rl,rc];simp only[Instr.makeSlice,Zie,Qw hu,Zid,Qd3,hti,hwl,hwc,hbi];rw[if_neg]
   . simp only[Zie,run_askRoom,Zid,K8 hk];by_cases h0:ic.toNat*k=0
     . have e0:(Array.range 0).map (fun x=>(#[]:Array Value)[x%(#[]:Array Value).size]!)=⟨[]⟩:=by
        apply Array.ext';simp
       have e1:zerosN vs ic.toNat=[]:=Zf7 (by rw[Kt,hvl,h0]);rw[if_pos h0];simp only[Zie,Zif,Zid,h0,e0,e1,Xk]
     . have e0:(Array.range (ic.toNat*k)).map (fun x=>zv.cells[x%zv.cells.size]!)=⟨zerosN vs ic.toNat⟩:=by
        rw[h2];have:=Qhu vs ic.toNat
        rw[hvl] at this;exact this
       rw[if_neg h0];simp only[Zie,Zif,Zid,h1,e0,Xk]
   . simp only[htoo,Bool.false_or,Zgj,decide_eq_true_eq];omega
  rw[hrun];obtain⟨d,hd,hg,rfl⟩:=Qap h;obtain⟨X,S'⟩:=S.newCells hfr hg (zerosN z ic.toNat) (zerosN vs ic.toNat) [] e E.w.drawn ((h3 E).zerosN _) (Qfw h4 _);refine⟨_,_,_,.slice (some ⟨E.w.heap.size,0,none⟩) il.toNat ic.toNat,rfl,X,S',?_,by simp[Env.newCells,Env.push]⟩;simp only[Rel];refine⟨E.w.heap.size,ic.toNat,e,(zerosN vs ic.toNat++[]).length,Q0 _ _ _ _,rfl,by omega,(fun q hq=>by cases hq;rfl),?_,?_,fun hq=>by cases hq⟩
  . have:=Kw E (.cells ⟨zerosN vs ic.toNat++[]⟩ e) E.w.drawn;simp only[Env.newCells,World.shape?,this];simp
  . simp[Kt,hvl]
 .
  rename_i t x lo hi mx ho;simp only[ho];cases hb:Qci P (Qd H) t (ρ x) (lo.map ρ) (hi.map ρ) (mx.map ρ) with
  |none=>rw[hb] at h;cases h
  |some v=>rw[hb] at h;cases h;exact Yd.next (Z8 S (Qr6 S hb (hρ x) (Qpg hρ lo) (Qpg hρ hi) (Qpg hρ mx)))
 .
  rename_i t x i ho;simp only[ho];split at h
  case h_2=>cases h
  rename_i fs hu;split at h
  case h_2=>cases h
  rename_i f hf;split at h
  case h_2=>cases h
  rename_i n hn;split at h
  case isTrue=>cases h
  rename_i hn0;have run1:∀a:Addr,(Instr.fieldAt t (.pointer (some a)) i).run P E.w= .ok (.pointer (some (a.add f.offset))) E.w:=by intro a;simp only[Instr.fieldAt,Zie,Qw hu,Zid,hf,Instr.sureAddr,Zif,fieldPlace,K8 hn,hn0,if_false]
  have hx:=hρ x;split at h
  . rename_i a b q hq;cases h;rw[hq] at hx;simp only[Rel] at hx;obtain⟨bb,hb,e⟩:=hx;rw[e];refine Yd.next (Z8 S ⟨_,run1 _,?_⟩);simp only[Rel];exact⟨bb,hb,by rw[Kk]⟩
  . rename_i cs q hq;cases h;rw[hq] at hx;simp only[Rel] at hx;obtain⟨b,off,vs,e,r1,r2,r3⟩:=hx;rw[e];refine Yd.next (Z8 S ⟨_,run1 _,?_⟩);simp only[Rel];exact⟨b,off,vs,by rw[Kk,Zfq],r1,r2,r3⟩
  . rename_i cs q hq;cases h;rw[hq] at hx;simp only[Rel] at hx;obtain⟨b,off,vs,e,r1,r2⟩:=hx;rw[e];refine Yd.next (Z8 S ⟨_,run1 _,?_⟩);simp only[Rel];exact⟨b,off,vs,by rw[Kk,Zfq],r1,r2⟩
  . rename_i f' s' q len hq;cases h;rw[hq] at hx;simp only[Rel] at hx;obtain⟨b,e,r1,r2⟩:=hx;rw[e];refine Yd.next (Z8 S ⟨_,run1 _,?_⟩);simp only[Rel];exact⟨b,by rw[Kk],r1,r2⟩
  . cases h
 .
  rename_i t x i ho;simp only[ho];split at h
  case h_2=>cases h
  rename_i fs cs hu hq;split at h
  case h_2=>cases h
  rename_i f hf;have hx:=hρ x;rw[hq] at hx;simp only[Rel] at hx;obtain⟨vs,e,hl⟩:=hx;cases hp:Qec P f.type cs f.offset with
  |none=>rw[hp] at h;cases h
  |some v=>
   rw[hp] at h;cases h;obtain⟨c,h1,h2⟩:=Qbu (w:=E.w) hp hl;refine Yd.next (Z8 S ⟨c,?_,h2⟩);rw[e];simp only[Instr.field,Zie,Qw hu,Zid,hf,asAgg,Zif,h1]
 .
  rename_i t x i ho;simp only[ho];cases hb:Zs P t (ρ x) (ρ i) with
  |none=>rw[hb] at h;cases h
  |some v=>rw[hb] at h;cases h;exact Yd.next (Z8 S (Qlp E.w hb (hρ x) (hρ i)))
 .
  rename_i t x i ho;simp only[ho];cases hb:Qg2 P t (ρ x) (ρ i) with
  |none=>rw[hb] at h;cases h
  |some v=>rw[hb] at h;cases h;exact Yd.next (Z8 S (Qsl E.w hb (hρ x) (hρ i)))
 .
  rename_i t m k ok ho;simp only[ho];cases hb:Bu P (Qd H) t (ρ m) (ρ k) ok with
  |none=>rw[hb] at h;cases h
  |some v=>rw[hb] at h;cases h;exact Yd.next (Z8 S (Qqn S hb (hρ m) (hρ k)))
 .
  rename_i t m k x ho;simp only[ho];obtain⟨v,w',rfl,hall⟩:=Qiv S h (hρ m) (hρ k) (hρ x);obtain⟨E',cv,X,S',hr,hrun,rfl⟩:=hall _ rfl;refine⟨E',undef,X,?_,hr,.inr ⟨by simp only[Zie,hrun,Zid,Zif],rfl⟩⟩;cases w' <;>exact S'
 .
  rename_i t m k x ho;simp only[ho];obtain⟨v,w',rfl,hall⟩:=Qiv S h (hρ m) (hρ k) (hρ x);obtain⟨E',cv,X,S',hr,hrun,rfl⟩:=hall _ rfl;refine⟨E',undef,X,?_,hr,.inr ⟨by simp only[Zie,hrun,Zid,Zif],rfl⟩⟩;cases w' <;>exact S'
 .
  rename_i t i ho;simp only[ho];have ht:=hρ t;split at h
  case h_2=>cases h
  rename_i vs hq;rw[hq] at ht;simp only[Rel] at ht;obtain⟨us,e,hl⟩:=ht;cases hv:vs[i]? with
  |none=>rw[hv] at h;cases h
  |some v=>
   rw[hv] at h;cases h;obtain⟨u,hu,hr⟩:=hl.get hv;refine Yd.next (Z8 S ⟨u,?_,hr⟩);rw[e];have:(⟨us⟩:Array Value)[i]?=some u:=by simpa using hu
   simp only[Instr.extract,this,Zif]
 .
  rename_i x xt t ok ho;simp only[ho];have hx:=hρ x;split at h
  . cases h
  . cases h
  . cases h
  . rename_i z hq hz hni hnn;obtain⟨d,hu⟩:∃d,P.underlying t=some d:=by
     cases hd:P.underlying t with
     |none=>exact(hnn hd).elim
     |some d=>exact⟨d,rfl⟩
    have hni:∀ms,d≠ .interface ms:=fun ms e=>hni ms (by rw[hu,e]);split at h
    case isFalse=>cases h
    rename_i hok;cases h;rw[hq] at hx;simp only[Rel] at hx;refine Yd.next (Z8 S ⟨.tuple #[z,.bool false],?_,by simp only[Rel];exact⟨[z,.bool false],rfl,.cons (Bp E z) (.cons (by simp[Rel]) .nil)⟩⟩);rw[hx];simp only[Instr.typeAssert,Zie,Qw hu,Zid];cases d<;>first|exact absurd rfl (hni _)|simp only[hok,if_true,Zie,Qb6 hz,Zid,Zif]
  . rename_i u v z hq hz hni hnn;obtain⟨d,hu⟩:∃d,P.underlying t=some d:=by
     cases hd:P.underlying t with
     |none=>exact(hnn hd).elim
     |some d=>exact⟨d,rfl⟩
    have hni:∀ms,d≠ .interface ms:=fun ms e=>hni ms (by rw[hu,e]);rw[hq] at hx;simp only[Rel] at hx;obtain⟨c,e,hc⟩:=hx;rw[e];split at h
    . rename_i hut;cases h;refine Yd.next (Z8 S ⟨if ok then .tuple #[c,.bool true] else c,?_,?_⟩)
      . simp only[Instr.typeAssert,Zie,Qw hu,Zid];cases d<;>first|exact absurd rfl (hni _)|simp only[hut,if_true,Zif]
      . cases ok
        . exact hc
        . simp only[if_true,Rel];exact⟨[c,.bool true],rfl,.cons hc (.cons (by simp[Rel]) .nil)⟩
    . rename_i hut;split at h
      case isFalse=>cases h
      rename_i hok;cases h;refine Yd.next (Z8 S ⟨.tuple #[z,.bool false],?_,by simp only[Rel];exact⟨[z,.bool false],rfl,.cons (Bp E z) (.cons (by simp[Rel]) .nil)⟩⟩);simp only[Instr.typeAssert,Zie,Qw hu,Zid];cases d<;>first|exact absurd rfl (hni _)|simp only[hut,hok,if_true,if_false,Zie,Qb6 hz,Zid,Zif]
  . cases h
 .
  rename_i c ho;simp only[ho];split at h
  .
   rename_i b hb;simp only[resolve,hb,Zie,Zif,Zid,invoke];have hl:=Qfc hρ c.args.toList;have harr:c.args.map ρc=⟨c.args.toList.map ρc⟩:=by apply Array.ext';simp
   rw[harr];exact Qpk S hfr o.type _ h hl
  . rename_i f hf;have hv:=hρ f;split at h
    case h_3=>cases h
    . rename_i f' first captured hq
      cases h;rw[hq] at hv;simp only[Rel] at hv;obtain⟨fs,cs,e,h1,h2⟩:=hv;refine⟨fs++c.args.toList.map ρc++cs,(h1.append (Qfc hρ _)).append h2,?_⟩;simp only[resolve,hf,e,Deferred.ofValue,Zie,Zif,Zid,invoke];congr 2;apply Array.ext';simp
    . rename_i fo so hq;cases h;rw[hq] at hv;simp only[Rel] at hv;obtain⟨b,hb,e⟩:=hv;refine⟨b,c.args.toList.map ρc,hb,Qfc hρ _,?_⟩;simp only[resolve,hf,e,Deferred.ofValue,Zie,Zif,Zid,invoke];congr 2;apply Array.ext';simp
  . cases h
 .
  rename_i x ho;simp only[ho];have hx:=hρ x;split at h
  case h_2=>cases h
  rename_i t v hq;cases h;rw[hq] at hx;have hx' :=hx;simp only[Rel] at hx;obtain⟨c,e,_⟩:=hx;refine⟨.iface t c,by rw[e] at hx';exact hx',?_⟩;rw[e];simp[Instr.panic]
 .
  rename_i t x ho;simp only[ho];exact Qtf S hfr h (hρ x)
 .
  rename_i x b ho;simp only[ho];split at h
  case isFalse=>cases h
  rename_i hb;subst hb;exact Yd.next (Qv0 S h (hρ x))
 .
  rename_i x ho;simp only[ho];cases hv:Qgg (Qd H) (ρ x) with
  |none=>rw[hv] at h;cases h
  |some v=>
   rw[hv] at h;cases h;exact Yd.next (Z8 S (Qsk S hv (hρ x)))
 .
  rename_i t m k ho;simp only[ho];exact Yd.next (Qna S h (hρ m) (hρ k))
 .
  rename_i t m s x ho;simp only[ho];obtain⟨v,wr,rfl,key⟩:=Qkq (P:=P) (t:=t) S h (hρ m) (hρ s) (hρ x);obtain⟨E',cv,X,S',hr,hrun,rfl⟩:=key _ rfl;refine⟨E',_,X,?_,hr,.inr ⟨?_,rfl⟩⟩
  . cases wr with
    |none=>exact S'
    |some w=>exact S'
  . simp only[Zie,hrun,Zid,Zif]
 . cases h
end Go.AM
end
