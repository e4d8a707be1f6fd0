/- This file holds in one the texts An43, An44; each says at its head what it proves. -/
import Derived.Test.YtmapmgfiamfocaaGreatT12
set_option linter.unusedSimpArgs false
set_option linter.unusedVariables false
section
namespace Go.AM
mutual
def V.nf(p:Nat->Nat->Bool):V->Bool
 | .ptr f s _| .mS f s _ _ _ _| .map f s| .yield f s| .mg f s _ _| .mp f s _ _=>!p f s
 | .gS f s cs _ _=>!p f s&&nfL p cs
 | .rptr cs _=>nfL p cs
 | .iptr cs _| .iS cs _ _=>Zt cs&&nfL p cs
 | .func _ a b=>nfL p a&&nfL p b
 | .face _ v=>v.nf p
 | .agg xs| .tuple xs=>nfL p xs
 |_=>true
def nfL(p:Nat->Nat->Bool):List V->Bool
 |[]=>true
 |x::xs=>x.nf p&&nfL p xs
end
def nfM(p:Nat->Nat->Bool):List (V×V)->Bool
 |[]=>true
 |(k,x)::r=>k.nf p&&x.nf p&&nfM p r
def O.nf(p:Nat->Nat->Bool):O->Bool
 | .cells xs=>nfL p xs
 | .map es _ _=>nfM p es
 | .iter (some m) _ _ _=>!p m.1 m.2
 | .loop _ _ _ _ t=>nfL p t
 | .mgrow xs _=>nfL p xs
 |_=>true
mutual
theorem Qnl{p:Nat->Nat->Bool}:∀v:V,v.nf p=true->v.refs p=false
 | .ptr f s _,h| .mS f s _ _ _ _,h| .map f s,h| .yield f s,h| .mg f s _ _,h| .mp f s _ _,h=>by simpa [V.nf,V.refs] using h
 | .gS f s cs _ _,h=>by simp only[V.nf,Zfr,Zf6] at h;simp[V.refs,h.1,Qbe cs h.2]
 | .rptr cs _,h=>by simp only[V.nf] at h;simp[V.refs,Qbe cs h]
 | .func _ a b,h=>by simp only[V.nf,Zfr] at h;simp[V.refs,Qbe a h.1,Qbe b h.2]
 | .face _ v,h=>by simp only[V.nf] at h;simp[V.refs,Qnl v h]
 | .agg xs,h| .tuple xs,h=>by simp only[V.nf] at h;simp[V.refs,Qbe xs h]
 | .bad,_| .bool _,_| .int _ _,_| .str _,_| .nP,_| .iptr _ _,_| .nS,_| .iS _ _ _,_| .nM,_| .nF,_| .nI,_| .byte,_=>rfl
theorem Qbe{p:Nat->Nat->Bool}:∀l:List V,nfL p l=true->Zv p l=false
 |[],_=>rfl
 |x::xs,h=>by simp only[nfL,Zfr] at h;simp[Zv,Qnl x h.1,Qbe xs h.2]
end
mutual
theorem Qf8{p q:Nat->Nat->Bool}:∀v:V,v.pure=true->v.nf p=true->v.nf q=true
 | .ptr _ _ _,h,_| .mS _ _ _ _ _ _,h,_| .map _ _,h,_| .gS _ _ _ _ _,h,_| .yield _ _,h,_| .rptr _ _,h,_| .mg _ _ _ _,h,_| .mp _ _ _ _,h,_=>by simp[V.pure] at h
 | .iptr cs _,_,h| .iS cs _ _,_,h=>by
   simp only[V.nf,Zfr] at h⊢;exact⟨h.1,Qc9 cs h.1 h.2⟩
 | .func _ a b,h,h2=>by
   simp only[V.pure,V.nf,Zfr] at h h2⊢;exact⟨Qc9 a h.1 h2.1,Qc9 b h.2 h2.2⟩
 | .face _ v,h,h2=>by simp only[V.pure,V.nf] at h h2⊢;exact Qf8 v h h2
 | .agg xs,h,h2| .tuple xs,h,h2=>by simp only[V.pure,V.nf] at h h2⊢;exact Qc9 xs h h2
 | .bad,_,_| .bool _,_,_| .int _ _,_,_| .str _,_,_| .nP,_,_| .nS,_,_| .nM,_,_| .nF,_,_| .nI,_,_| .byte,_,_=>rfl
theorem Qc9{p q:Nat->Nat->Bool}:∀l:List V,Zt l=true->nfL p l=true->nfL q l=true
 |[],_,_=>rfl
 |x::xs,h,h2=>by
  simp only[Zt,nfL,Zfr] at h h2⊢;exact⟨Qf8 x h.1 h2.1,Qc9 xs h.2 h2.2⟩
end
theorem Ql2{xs:List V}:Zt xs=true↔∀x∈xs,x.pure=true:=by
 induction xs with
 |nil=>simp[Zt]
 |cons y ys ih=>simp[Zt,ih]
theorem Qr9{xs:List V}(n:Nat)(h:Zt xs=true):Zt (xs.take n)=true:=by rw[Ql2] at*;intro x hx;exact h x (List.mem_of_mem_take hx)
theorem Qsf{xs:List V}(n:Nat)(h:Zt xs=true):Zt (xs.drop n)=true:=by rw[Ql2] at*;intro x hx;exact h x (List.mem_of_mem_drop hx)
theorem pl_app{xs ys:List V}(h:Zt xs=true)(h2:Zt ys=true):Zt (xs++ys)=true:=by
 rw[Ql2] at*;intro x hx;rcases Zfw.1 hx with q|q
 . exact h x q
 . exact h2 x q
section
variable {p : Nat -> Nat -> Bool} {P : Program}
theorem Qli{i:Nat}{x:V}:∀{xs:List V},nfL p xs=true->xs[i]?=some x->x.nf p=true
 |[],_,h=>by simp at h
 |y::ys,h,hx=>by
  simp only[nfL,Zfr] at h;cases i with
  |zero=>simp at hx;subst hx;exact h.1
  |succ i=>exact Qli (xs:=ys) (i:=i) h.2 (by simpa using hx)
theorem Qcl{xs:List V}:nfL p xs=true↔∀x∈xs,x.nf p=true:=by
 induction xs with
 |nil=>simp[nfL]
 |cons y ys ih=>simp[nfL,ih]
theorem Qcd{xs ys:List V}(h:nfL p xs=true)(h2:nfL p ys=true):nfL p (xs++ys)=true:=by
 rw[Qcl] at*;intro x hx;rcases Zfw.1 hx with q|q
 . exact h x q
 . exact h2 x q
theorem Qbz{xs:List V}(n:Nat)(h:nfL p xs=true):nfL p (xs.take n)=true:=by rw[Qcl] at*;intro x hx;exact h x (List.mem_of_mem_take hx)
theorem Qcw{xs:List V}(n:Nat)(h:nfL p xs=true):nfL p (xs.drop n)=true:=by rw[Qcl] at*;intro x hx;exact h x (List.mem_of_mem_drop hx)
theorem Qx4{xs:List V}(n:Nat){v:V}(h:nfL p xs=true)(hv:v.nf p=true):nfL p (xs.set n v)=true:=by
 rw[Qcl] at*;intro x hx;rcases Zgk hx with q|q
 . exact h x q
 . subst q;exact hv
theorem Qco{xs cs:List V}(o:Nat)(h:nfL p xs=true)(h2:nfL p cs=true):nfL p (splice xs o cs)=true:=
 Qcd (Qcd (Qbz _ h) h2) (Qcw _ h)
theorem Qhd{z:List V}(h:nfL p z=true):∀n,nfL p (zerosN z n)=true
 |0=>rfl
 |n+1=>Qcd h (Qhd h n)
theorem nl_rep(n:Nat){v:V}(h:v.nf p=true):nfL p (List.replicate n v)=true:=by rw[Qcl];intro x hx;rw[List.eq_of_mem_replicate hx];exact h
theorem Qgy{es:List (V×V)}:nfM p es=true↔∀e∈es,e.1.nf p=true/\e.2.nf p=true:=by
 induction es with
 |nil=>simp[nfM]
 |cons y ys ih=>simp[nfM,ih,and_assoc]
theorem Q3z{es:List (V×V)}(n:Nat){e:V×V}(h:nfM p es=true)(hv:e.1.nf p=true/\e.2.nf p=true):nfM p (es.set n e)=true:=by
 rw[Qgy] at*;intro x hx;rcases Zgk hx with q|q
 . exact h x q
 . subst q;exact hv
theorem Q2t{xs ys:List (V×V)}(h:nfM p xs=true)(h2:nfM p ys=true):nfM p (xs++ys)=true:=by
 rw[Qgy] at*;intro x hx;rcases Zfw.1 hx with q|q
 . exact h x q
 . exact h2 x q
theorem Q4d{es:List (V×V)}(n:Nat)(h:nfM p es=true):nfM p (es.eraseIdx n)=true:=by rw[Qgy] at*;intro x hx;exact h x (List.mem_of_mem_eraseIdx hx)
theorem Qjc(v:Value):(Qbd v).nf p=true:=by unfold Qbd;split<;>rfl
theorem Qj0(l:List Value):nfL p (l.map Qbd)=true:=by rw[Qcl];intro x hx;obtain⟨v,_,rfl⟩:=Zfm.1 hx;exact Qjc v
theorem Qbs(v:Value):(Jw v).nf p=true:=by
 unfold Jw;split
 . exact Qj0 _
 . exact Qjc _
 . exact Qj0 _
 . exact Qjc _
theorem Qhq{v:V}{cs:List V}(hv:v.nf p=true)(h:v.cells=some cs):nfL p cs=true:=by
 unfold V.cells at h;split at h
 . split at h
   . cases h;exact hv
   . cases h
 . cases h
 . cases h
 . cases h;simp only[nfL,hv,Bool.and_true]
theorem Br{t:TypeId}{z:List V}(h:zeroCells P t=some z):nfL p z=true:=by
 unfold zeroCells at h;cases hz:zer P t with
 |none=>rw[hz] at h;cases h
 |some v=>rw[hz] at h;exact Qhq (Qbs v) h
theorem Qht{t:TypeId}{xs:List V}{o:Nat}{v:V}(hx:nfL p xs=true)(h:Zf P t xs o=some v):v.nf p=true:=by
 unfold Zf at h;split at h
 . split at h
   . split at h
     . cases h;exact Qbz _ (Qcw _ hx)
     . cases h
   . exact Qli hx h
 . cases h
theorem Qy9{t:TypeId}{xs:List V}{o:Nat}{v:V}(hx:nfL p xs=true)(h:Qec P t xs o=some v):v.nf p=true:=by
 unfold Qec at h;split at h
 . split at h
   . cases h;exact Qbz _ (Qcw _ hx)
   . exact Qli hx h
 . cases h
theorem Qnq{place:Nat->Option (Nat×Nat)}:∀{ps:List (Nat×V)} {cells r:List V},nfL p cells=true->(∀x∈ps,x.2.nf p=true)->Bn place cells ps=some r->nfL p r=true
 |[],cells,r,h,_,e=>by cases e;exact h
 |(i,v)::rest,cells,r,h,hp,e=>by
  unfold Bn at e;split at e
  . split at e
    . rename_i hc _;exact Qnq (Qco _ h (Qhq (hp (i,v) (by simp)) hc)) (fun x hx=>hp x (Zfj _ hx)) e
    . cases e
  . cases e
theorem Q72{t:TypeId}{ps:List (Nat×V)}{v:V}(hp:∀x∈ps,x.2.nf p=true)(h:Qac P t ps=some v):v.nf p=true:=by
 unfold Qac at h;split at h
 . rename_i z fs hz hu;split at h
   . rename_i q _;cases hf:Bn (fun i=>q[i]?) z ps with
     |none=>rw[hf] at h;cases h
     |some r=>rw[hf] at h;cases h;exact Qnq (Br hz) hp hf
   . cases h
 . rename_i z n e hz hu;split at h
   . rename_i m _;cases hf:Bn (fun i=>some (i*m,m)) z ps with
     |none=>rw[hf] at h;cases h
     |some r=>rw[hf] at h;cases h;exact Qnq (Br hz) hp hf
   . cases h
 . cases h
theorem n_binI{op:BinOp}{k:IntKind}{a b:Int}{v:V}(h:Qj4 op k a b=some v):v.nf p=true:=by unfold Qj4 at h;split at h<;>(try split at h)<;>first|(cases h;rfl)|cases h
theorem Qv1{op:BinOp}{k:IntKind}{a b:Int}{v:V}(h:Ql5 op k a b=some v):v.nf p=true:=by
 unfold Ql5 at h;split at h
 . cases h
 . split at h<;>first|(cases h;rfl)|cases h
theorem n_binS{op:BinOp}{a b:List UInt8}{v:V}(h:binS op a b=some v):v.nf p=true:=by unfold binS at h;split at h<;>(try split at h)<;>first|(cases h;rfl)|cases h
theorem n_binV{op:BinOp}{t:TypeId}{x y:Operand}{a b v:V}(h:X7 P op t x y a b=some v):v.nf p=true:=by
 unfold X7 at h;split at h
 . exact Qv1 h
 . exact Qv1 h
 . split at h
   . exact n_binI h
   . cases h
 . exact n_binS h
 . obtain⟨_,_,rfl⟩:=Zgl.1 h;rfl
 . obtain⟨_,_,rfl⟩:=Zgl.1 h;rfl
 . cases h
theorem n_unV{op:UnOp}{a v:V}(h:unV op a=some v):v.nf p=true:=by unfold unV at h;split at h<;>first|(cases h;rfl)|cases h
theorem Qf6(l:List UInt8):nfL p (Qp l)=true:=by rw[Qcl];intro x hx;obtain⟨b,_,rfl⟩:=Zfm.1 hx;rfl
def ClG(p:Nat->Nat->Bool)(g:Get):Prop:=∀f s o,g f s=some o->p f s=false->o.nf p=true
variable {g : Get} {fr : Nat} {dst : Option Nat} {mt : Nat -> Bool}
theorem nl_sc(hg:ClG p g){esz n:Nat}{v:V}{cs:List V}(hv:v.nf p=true)(h:Z3 g esz v=some (cs,n)):nfL p cs=true:=by
 unfold Z3 at h;split at h
 . cases h;rfl
 . split at h
   . cases h;simp only[V.nf,Zfr] at hv;exact hv.2
   . cases h
 . split at h
   . cases h;simp only[V.nf,Zfr] at hv;exact hv.2
   . cases h
 . split at h
   . rename_i ho;split at h
     . cases h;exact Qbz _ (Qcw _ (hg _ _ _ ho (by simpa [V.nf] using hv)))
     . cases h
   . cases h
 . split at h
   . rename_i ho;split at h
     . cases h;exact hg _ _ _ ho (by simpa [V.nf] using hv)
     . cases h
   . cases h
 . cases h
def WOk(p:Nat->Nat->Bool)(w:Option (Nat×Nat×O)):Prop:=∀f s o,w=some (f,s,o)->p f s=false/\o.nf p=true
def Yv.ok(p:Nat->Nat->Bool):Yv->Prop
 | .val v w=>v.nf p=true/\WOk p w
 | .call _ args=>nfL p args=true
 | .round f s args=>p f s=false/\nfL p args=true
 | .panic v=>v.nf p=true
theorem Bh:WOk p none:=fun _ _ _ h=>by cases h
theorem Z7{f s:Nat}{o:O}(h1:p f s=false)(h2:o.nf p=true):WOk p (some (f,s,o)):=fun _ _ _ h=>by cases h;exact⟨h1,h2⟩
theorem Qcs{o:O}{v:Nat->V}{st:Yv}(ho:o.nf p=true)(hv:∀d,(v d).nf p=true)(hfr:∀s,p fr s=false)(h:new g fr dst o v=some st):st.ok p:=by
 unfold new at h;split at h
 . split at h
   . cases h;exact⟨hv _,Z7 (hfr _) ho⟩
   . cases h
 . cases h
theorem Qxn{cells:List V}{len esz:Nat}{full:Bool}{lo hi mx:Option Int}{v:V}(hp:Zt cells=true)(hn:nfL p cells=true)(h:Qnf cells len full esz lo hi mx=some v):v.nf p=true:=by
 unfold Qnf at h;split at h
 . split at h
   . cases h;simp only[V.nf,Zfr];exact⟨Qr9 _ (Qsf _ hp),Qbz _ (Qcw _ hn)⟩
   . cases h
 . cases h
theorem Q4h{f s o len esz:Nat}{cap:Option Nat}{lo hi mx:Option Int}{v:V}(hp:p f s=false)(h:Qsn f s o len cap esz lo hi mx=some v):v.nf p=true:=by
 unfold Qsn at h;split at h
 . split at h
   . cases h;simp[V.nf,hp]
   . cases h
 . split at h
   . split at h
     . cases h;simp[V.nf,hp]
     . split at h
       . cases h;simp[V.nf,hp]
       . cases h;rfl
   . cases h
theorem Q43{t:TypeId}{x:V}{lo hi mx:Option V}{v:V}(hx:x.nf p=true)(h:Qci P g t x lo hi mx=some v):v.nf p=true:=by
 unfold Qci at h;split at h
 case h_2=>cases h
 split at h
 . split at h
   . split at h
     . cases h
     . split at h
       . cases h;rfl
       . cases h
   . cases h
 . split at h
   . split at h
     . split at h
       . cases h;rfl
       . cases h
     . simp only[V.nf,Zfr] at hx;exact Qxn hx.1 hx.2 h
     . split at h
       . rename_i hc;simp only[V.nf,Zfr] at hx;exact Qxn hc.2 hx.2 h
       . cases h
     . split at h
       . exact Q4h (by simpa [V.nf] using hx) h
       . cases h
     . cases h
   . cases h
 . split at h
   . split at h
     . split at h
       . split at h
         . exact Q4h (by simpa [V.nf] using hx) h
         . cases h
       . cases h
     . split at h
       . simp only[V.nf,Zfr] at hx;exact Qxn (Qr9 _ (Qsf _ hx.1)) (Qbz _ (Qcw _ hx.2)) h
       . cases h
     . cases h
   . cases h
 . cases h
theorem Qwe{t:TypeId}{x i v:V}(hx:x.nf p=true)(h:Zs P t x i=some v):v.nf p=true:=by
 unfold Zs at h;split at h
 case h_2=>cases h
 split at h
 . split at h
   . split at h
     . split at h
       . cases h;simpa [V.nf] using hx
       . cases h;simpa [V.nf] using hx
       . cases h;simpa [V.nf] using hx
       . cases h;simpa [V.nf] using hx
       . cases h
     . cases h
   . cases h
 . split at h
   . split at h
     . split at h
       . cases h;simpa [V.nf] using hx
       . cases h
     . split at h
       . cases h;simp only[V.nf,Zfr] at hx;split
         . rename_i hq;simp only[V.nf,Zfr];exact⟨hq,hx.2⟩
         . simp only[V.nf];exact hx.2
       . cases h
     . split at h
       . cases h;simpa [V.nf] using hx
       . cases h
     . split at h
       . cases h;simpa [V.nf] using hx
       . cases h
     . cases h
   . cases h
 . cases h
theorem Q5s{t:TypeId}{x i v:V}(hx:x.nf p=true)(h:Qg2 P t x i=some v):v.nf p=true:=by
 unfold Qg2 at h;split at h
 case h_2=>cases h
 split at h
 . split at h
   . split at h
     . exact Qy9 hx h
     . cases h
   . cases h
 . split at h
   . obtain⟨_,_,rfl⟩:=Zgl.1 h;rfl
   . cases h
 . cases h
theorem Qxp{k x:V}{i:Nat}:∀{es:List (V×V)} {j:Nat},nfM p es=true->findKey k es j=some (some (i,x))->x.nf p=true
 |[],_,_,h=>by cases h
 |(k',y)::r,j,hn,h=>by
  simp only[nfM,Zfr] at hn;unfold findKey at h;split at h
  . cases h;exact hn.1.2
  . exact Qxp hn.2 h
  . cases h
theorem Q27(hg:ClG p g){t:TypeId}{m k v:V}{ok:Bool}(hm:m.nf p=true)(h:Bu P g t m k ok=some v):v.nf p=true:=by
 unfold Bu at h;have dflt:∀z:Value,(if ok then V.tuple [Jw z,.bool false] else Jw z).nf p=true:=by
  intro z;cases ok
  . exact Qbs z
  . simp[V.nf,nfL,Qbs]
 split at h
 case h_2=>cases h
 split at h
 case h_2=>cases h
 split at h
 case isFalse=>cases h
 split at h
 . cases h;exact dflt _
 . split at h
   . rename_i ho;have hes:=hg _ _ _ ho (by simpa [V.nf] using hm);split at h
     . rename_i hf;have hx:=Qxp hes hf;cases h;cases ok
       . exact hx
       . simp[V.nf,nfL,hx]
     . cases h;exact dflt _
     . cases h
   . cases h
 . cases h
theorem Qrj(hg:ClG p g){t:TypeId}{m k x:V}{st:Yv}(hm:m.nf p=true)(hk:k.nf p=true)(hx:x.nf p=true)(h:updateV P g t m k x=some st):st.ok p:=by
 unfold updateV at h;split at h
 case h_2=>cases h
 split at h
 case h_2=>cases h
 split at h
 case isFalse=>cases h
 split at h
 case h_2=>cases h
 have hmp:=hm;simp only[V.nf,Zf6] at hmp;split at h
 case h_2=>cases h
 rename_i ho;have hes:=hg _ _ _ ho hmp;split at h
 . cases h;exact⟨rfl,Z7 hmp (Q3z _ hes ⟨hk,hx⟩)⟩
 . cases h;exact⟨rfl,Z7 hmp (Q2t hes (by simp[nfM,hk,hx]))⟩
 . cases h
theorem Q0u(hg:ClG p g){t:TypeId}{m k:V}{st:Yv}(hm:m.nf p=true)(h:X9 P g t m k=some st):st.ok p:=by
 unfold X9 at h;split at h
 case h_2=>cases h
 split at h
 case h_2=>cases h
 split at h
 case isFalse=>cases h
 split at h
 . cases h;exact⟨rfl,Bh⟩
 . have hmp:=hm;simp only[V.nf,Zf6] at hmp;split at h
   case h_2=>cases h
   rename_i ho;have hes:=hg _ _ _ ho hmp;split at h
   . cases h;exact⟨rfl,Z7 hmp (Q4d _ hes)⟩
   . cases h;exact⟨rfl,Z7 hmp hes⟩
   . cases h
 . cases h
theorem Qvi(hg:ClG p g){t:TypeId}{m k:V}{st:Yv}(hm:m.nf p=true)(hk:k.nf p=true)(h:mapEntryV P g t m k=some st):st.ok p:=by
 unfold mapEntryV at h;split at h
 case h_2=>cases h
 split at h
 case h_2=>cases h
 split at h
 case isFalse=>cases h
 split at h
 case h_2=>cases h
 have hmp:=hm;simp only[V.nf,Zf6] at hmp;split at h
 case h_2=>cases h
 rename_i ho;have hes:=hg _ _ _ ho hmp;split at h
 . rename_i hf;have hx:=Qxp hes hf;split at h
   . cases h;exact⟨by simp[V.nf,nfL,hx],Z7 hmp (Q3z _ hes ⟨hk,hx⟩)⟩
   . cases h
 . cases h;exact⟨by simp[V.nf,nfL,Qbs],Z7 hmp (Q2t hes (by simp[nfM,hk,Qbs]))⟩
 . cases h
theorem Qu3{b:Int}{x:V}(hx:x.nf p=true):∀{es es' :List (V×V)} {bs:List Nat},nfM p es=true->Qff b x es bs=some es' ->nfM p es' =true
 |[],_,_,_,h=>by simp[Qff] at h
 |e::es,es',[],_,h=>by simp[Qff] at h
 |e::es,es',b' ::bs,hn,h=>by
  have hn' :(e.1.nf p=true/\e.2.nf p=true)/\nfM p es=true:=by obtain⟨a,c⟩:=e;simpa only[nfM,Zfr] using hn
  unfold Qff at h;split at h
  . cases h;simp only[nfM,Zfr];exact⟨⟨hn'.1.1,hx⟩,hn'.2⟩
  . obtain⟨q,hq,rfl⟩:=Zgl.1 h;have:=Qu3 hx hn'.2 hq;obtain⟨a,c⟩:=e;simp only[nfM,Zfr];exact⟨hn'.1,this⟩
theorem Qqc(hg:ClG p g){m s x:V}{st:Yv}(hm:m.nf p=true)(hx:x.nf p=true)(h:entryStoreV g m s x=some st):st.ok p:=by
 unfold entryStoreV at h;split at h
 . have hmp:=hm;simp only[V.nf,Zf6] at hmp;split at h
   case h_2=>cases h
   rename_i ho;have hes:=hg _ _ _ ho hmp;obtain⟨q,hq,rfl⟩:=Zgl.1 h;exact⟨rfl,Z7 hmp (Qu3 hx hes hq)⟩
 . cases h
theorem Qok{cs chk:List V}{n esz:Nat}{st:Yv}(hc:nfL p cs=true)(hfr:∀s,p fr s=false)(h:grown mt g fr dst cs chk n esz=some st):st.ok p:=by
 unfold grown at h;split at h
 . split at h
   . split at h
     . exact Qcs (o:= .cells cs) hc (fun d=>by simp[V.nf,hfr]) hfr h
     . cases h
   . split at h
     . split at h
       . exact Qcs (o:= .mgrow cs n) hc (fun d=>by simp[V.nf,hfr]) hfr h
       . cases h
     split at h
     . split at h
       . rename_i hp;cases h;exact⟨by simp[V.nf,hp,hc],Bh⟩
       . cases h
     . exact Qcs rfl (fun d=>by simp[V.nf,hfr,hc]) hfr h
 . cases h
theorem Q04(hg:ClG p g){t2:TypeId}{n by_ m:Nat}{z cs:List V}{x:V}(hz:nfL p z=true)(hx:x.nf p=true)(h:Qcj P g t2 n by_ z x=some (cs,m)):nfL p cs=true:=by
 unfold Qcj at h;split at h
 . split at h
   . split at h
     . cases h;exact Qhd hz _
     . cases h
   . cases h
 . split at h
   . split at h
     . cases h;exact Qf6 _
     . cases h
   . cases h
 . exact nl_sc hg hx h
 . cases h
theorem Qvr(hg:ClG p g){n by_ m:Nat}{s:V}{new:List V}{st:Yv}(hs:s.nf p=true)(hn:nfL p new=true)(hfr:∀s,p fr s=false)(h:appendTo mt fr g dst n by_ s new m=some st):st.ok p:=by
 unfold appendTo at h;split at h
 . split at h
   . exact Qok hn hfr h
   . cases h
 . simp only[V.nf,Zfr] at hs;split at h
   . exact Qok (Qcd hs.2 hn) hfr h
   . cases h
 . simp only[V.nf,Zfr,Zf6] at hs;split at h
   . rename_i hc;split at h
     . split at h
       . cases h;exact⟨by simp only[V.nf,Zfr,Zf6];exact⟨hs.1,Qcd hs.2 hn⟩,Z7 hs.1 rfl⟩
       . cases h
     . cases h
   . cases h
 . have hmp:=hs;simp only[V.nf,Zf6] at hmp;split at h
   . split at h
     . rename_i ho;have hes:nfL p _=true:=hg _ _ _ ho hmp;split at h
       . cases h;exact⟨by simpa [V.nf] using hs,Z7 hmp (Qcd hes hn)⟩
       . cases h
     . cases h
   . cases h
 . have hmp:=hs;simp only[V.nf,Zf6] at hmp;split at h
   case isFalse=>cases h
   split at h
   case h_2=>cases h
   rename_i ho;have hes:nfL p _=true:=hg _ _ _ ho hmp;split at h
   . split at h
     . split at h
       . cases h;exact⟨hs,Z7 hmp (Qco _ hes hn)⟩
       . cases h
     . split at h
       . exact Qok (Qcd (Qbz _ (Qcw _ hes)) hn) hfr h
       . cases h
   . split at h
     . cases h;exact⟨hs,Z7 hmp (Qco _ hes hn)⟩
     . cases h
 . cases h
theorem Qyd(hg:ClG p g){t t2:TypeId}{s x:V}{st:Yv}(hs:s.nf p=true)(hx:x.nf p=true)(hfr:∀s,p fr s=false)(h:Yi P mt fr g dst t t2 s x=some st):st.ok p:=by
 unfold Yi at h;split at h
 case h_2=>cases h
 split at h
 case h_2=>cases h
 rename_i z _ _ hz;split at h
 case isFalse=>cases h
 split at h
 . cases h
 . split at h
   . cases h;exact⟨hs,Bh⟩
   . cases h
 . rename_i hsrc;exact Qvr hg hs (Q04 hg (Br hz) hx hsrc) hfr h
theorem Q3v(hg:ClG p g){t:TypeId}{d s:V}{st:Yv}(hd:d.nf p=true)(hs:s.nf p=true)(h:Qgq P g t d s=some st):st.ok p:=by
 unfold Qgq at h;split at h
 case h_2=>cases h
 split at h
 case h_2=>cases h
 split at h
 case h_2=>cases h
 rename_i n _ cs m hsrc;have hcs:nfL p cs=true:=by
  unfold Qf4 at hsrc;split at hsrc
  . split at hsrc
    . cases hsrc;exact Qf6 _
    . cases hsrc
  . exact nl_sc hg hs hsrc
 unfold Qgv at h;split at h
 . cases h;exact⟨rfl,Bh⟩
 . have hmp:=hd;simp only[V.nf,Zf6] at hmp;split at h
   case isFalse=>cases h
   split at h
   case h_2=>cases h
   rename_i ho;have hes:nfL p _=true:=hg _ _ _ ho hmp;split at h
   . cases h;exact⟨rfl,Z7 hmp (Qco _ hes (Qbz _ hcs))⟩
   . cases h
 . cases h
theorem Q30(hg:ClG p g){t:TypeId}{d:V}{st:Yv}(hd:d.nf p=true)(h:Qi3 P g t d=some st):st.ok p:=by
 unfold Qi3 at h;split at h
 . split at h
   . cases h;exact⟨rfl,Bh⟩
   . have hmp:=hd;simp only[V.nf,Zf6] at hmp;split at h
     . rename_i hz;split at h
       . split at h
         . cases h;exact⟨rfl,Bh⟩
         . split at h
           . rename_i ho;split at h
             . cases h;exact⟨rfl,Z7 hmp (Qco _ (hg _ _ _ ho hmp) (Qhd (Br hz) _))⟩
             . cases h
           . cases h
       . cases h
     . cases h
   . cases h
 . cases h
theorem Qyj{mx:Bool}:∀{l:List V} {x v:V},x.nf p=true->Qga mx x l=some v->v.nf p=true
 |[],x,v,hx,h=>by unfold Qga at h;cases h;exact hx
 |y::l,x,v,hx,h=>by
  unfold Qga at h;split at h
  . rename_i he;cases he
  . rename_i he;cases he;exact Qyj (l:=l) rfl h
  . cases h
theorem Qws(hg:ClG p g){s d:TypeId}{x:V}{st:Yv}(hx:x.nf p=true)(h:convertV P g s d x=some st):st.ok p:=by
 unfold convertV at h;split at h
 . cases h;exact⟨rfl,Bh⟩
 . cases h;exact⟨rfl,Bh⟩
 . split at h
   . cases h;refine⟨?_,Bh⟩;simp only[V.nf,Zfr];exact⟨X6 _,Qf6 _⟩
   . cases h
 . split at h
   . split at h
     . obtain⟨_,_,rfl⟩:=Zgl.1 h;exact⟨rfl,Bh⟩
     . cases h
   . cases h
 . have hmp:=hx;simp only[V.nf,Zf6] at hmp;split at h
   case isFalse=>cases h
   split at h
   case h_2=>cases h
   rename_i ho;have hes:nfL p _=true:=hg _ _ _ ho hmp;split at h
   . rename_i hc;cases h;exact⟨by simp only[V.nf,Zfr];exact⟨hc.2,hes⟩,Z7 hmp rfl⟩
   . cases h
 . cases h
theorem Xz{v:V}(h:v.nf p=true):(Yv.val v none).ok p:=⟨h,Bh⟩
theorem Qad{o:Option V}{st:Yv}(hv:∀v,o=some v->v.nf p=true)(h:(o.map fun v=>Yv.val v none)=some st):st.ok p:=by obtain⟨v,h1,rfl⟩:=Zgl.1 h;exact Xz (hv v h1)
theorem Qq4{e:V×V}{b:Nat}:∀{es:List (V×V)} {bs:List Nat},nfM p es=true->Qb9 b es bs=some e->e.1.nf p=true/\e.2.nf p=true
 |[],_,_,h=>by simp[Qb9] at h
 |x::es,[],_,h=>by simp[Qb9] at h
 |x::es,b' ::bs,hn,h=>by
  rw[Qgy] at hn;unfold Qb9 at h;split at h
  . cases h;exact hn _ (by simp)
  . exact Qq4 (es:=es) (Qgy.2 fun y hy=>hn y (Zfj _ hy)) h
theorem Q40(hg:ClG p g){x v:V}(hx:x.nf p=true)(h:Qgg g x=some v):v.nf p=true:=by
 unfold Qgg at h;split at h
 case h_2=>cases h
 have hxp:=hx;simp only[V.nf,Zf6] at hxp;split at h
 case h_2=>cases h
 rename_i m _ _ _ ho;have hi:=hg _ _ _ ho hxp;simp only[O.nf,Zf6] at hi;split at h
 . rename_i hm _;have hes:nfM p _=true:=hg _ _ _ hm hi;split at h
   . obtain⟨e,he,rfl⟩:=Zgl.1 h;have:=Qq4 hes he;simp[V.nf,nfL,this.1,this.2]
   . cases h
 . cases h
theorem Qp7{r:Operand->V}(hr:∀x,(r x).nf p=true)(l:List Operand):nfL p (l.map r)=true:=by rw[Qcl];intro x hx;obtain⟨y,_,rfl⟩:=Zfm.1 hx;exact hr y
theorem Qy2(hg:ClG p g){b:Builtin}{ts:Array TypeId}{args:List V}{st:Yv}(ha:nfL p args=true)(hfr:∀s,p fr s=false)(h:builtinV P mt fr g dst b ts args=some st):st.ok p:=by
 unfold builtinV at h;split at h
 . simp only[nfL,Zfr] at ha;split at h
   . exact Qyd hg ha.1 ha.2.1 hfr h
   . cases h
 . split at h
   . refine Qad (fun v hv=>?_) h;unfold Qaw at hv;split at hv<;>(try split at hv)<;>first|(cases hv;rfl)|cases hv
   . cases h
 . split at h
   . refine Qad (fun v hv=>?_) h;unfold capV at hv;split at hv<;>first|(cases hv;rfl)|cases hv
   . cases h
 . simp only[nfL,Zfr] at ha;split at h
   . exact Q3v hg ha.1 ha.2.1 h
   . cases h
 . simp only[nfL,Zfr] at ha;split at h
   . exact Q0u hg ha.1 h
   . cases h
 . simp only[nfL,Zfr] at ha;split at h
   . exact Q30 hg ha.1 h
   . cases h
 . simp only[nfL,Zfr] at ha;exact Qad (fun v hv=>Qyj ha.1 hv) h
 . simp only[nfL,Zfr] at ha;exact Qad (fun v hv=>Qyj ha.1 hv) h
 . cases h
theorem Qnk(hg:ClG p g){r:Operand->V}(hr:∀x,(r x).nf p=true)(hfr:∀s,p fr s=false){o:Oper}{st:Yv}(h:K0 P mt fr g r o=some st):st.ok p:=by
 unfold K0 at h;split at h
 . cases h;exact Xz (hr _)
 . cases h;exact Xz (hr _)
 . split at h
   . cases h;split<;>exact Xz (hr _)
   . cases h
 . obtain⟨z,hz,h⟩:=Option.bind_eq_some_iff.1 h;exact Qcs (o:= .cells z) (Br hz) (fun d=>by simp[V.nf,hfr]) hfr h
 . obtain⟨z,hz,h⟩:=Option.bind_eq_some_iff.1 h;have hn:=Qhq (hr _) hz;split at h
   . split at h
     . exact Qcs (o:= .cells z) hn (fun d=>by simp[V.nf,hfr]) hfr h
     . split at h
       . rename_i hq;cases h;exact Xz (by simp[V.nf,hq,hn])
       . cases h
   . cases h
 . refine Qad (fun v hv=>Q72 (fun x hx=>?_) hv) h;obtain⟨y,_,rfl⟩:=Zfm.1 hx;exact hr _
 . split at h
   case h_2=>cases h
   split at h
   case h_2=>cases h
   rename_i hz;split at h
   case isFalse=>cases h
   split at h
   case h_2=>cases h
   rename_i cs hf;have hcs:nfL p cs=true:=Qnq (by split;rfl;exact Qhd (Br hz) _) (fun x hx=>by obtain⟨y,_,rfl⟩:=Zfm.1 hx;exact hr _) hf;split at h
   case h_2=>cases h
   split at h
   . exact Qcs (o:= .cells cs) hcs (fun d=>by simp[V.nf,hfr]) hfr h
   . split at h
     . rename_i hp;cases h;exact Xz (by simp[V.nf,hp,hcs])
     . cases h
 . rename_i a _;have ha:=hr a;split at h
   . rename_i he;rw[he] at ha;split at h
     . rename_i ho;refine Qad (fun v hv=>Qht (hg _ _ _ ho (by simpa [V.nf] using ha)) hv) h
     . cases h
   . rename_i he;rw[he] at ha;simp only[V.nf,Zfr] at ha;exact Qad (fun v hv=>Qht ha.2 hv) h
   . rename_i he;rw[he] at ha;simp only[V.nf] at ha;exact Qad (fun v hv=>Qht ha hv) h
   . rename_i he;rw[he] at ha;split at h
     . rename_i ho;split at h
       . refine Qad (fun v hv=>Qht (show nfL p _=true from hg _ _ _ ho (by simpa [V.nf] using ha)) hv) h
       . cases h
     . cases h
   . cases h
 . rename_i a x _;have ha:=hr a;split at h
   . rename_i he hc _;rw[he] at ha;simp only[V.nf,Zf6] at ha;split at h
     . rename_i ho;split at h
       . cases h;exact⟨rfl,Z7 ha (Qco _ (hg _ _ _ ho ha) (Qhq (hr x) hc))⟩
       . cases h
     . cases h
   . rename_i he hc _;rw[he] at ha;simp only[V.nf,Zf6] at ha;split at h
     . rename_i ho;split at h
       . cases h;exact⟨rfl,Z7 ha (Qco _ (show nfL p _=true from hg _ _ _ ho ha) (Qhq (hr x) hc))⟩
       . cases h
     . cases h
   . cases h
 . rename_i x _;have hx:=hr x;split at h<;>first|(rename_i he;cases h;rw[he] at hx;exact Xz hx)|cases h
 . exact Qad (fun v hv=>n_binV hv) h
 . exact Qad (fun v hv=>n_unV hv) h
 . split at h
   . exact Qcs (o:= .grow _) rfl (fun d=>by simp[V.nf,hfr,Qf6]) hfr h
   . exact Qws hg (hr _) h
 . rename_i x _;have hx:=hr x;split at h
   case h_2=>cases h
   split at h
   . rename_i he;split at h
     . cases h;rw[he] at hx;exact Xz (by simpa [V.nf] using hx)
     . cases h
   . rename_i he;split at h
     . rename_i hc;cases h;rw[he] at hx;simp only[V.nf,Zfr] at hx;exact Xz (by simp only[V.nf,Zfr];exact⟨hc.2.2,hx.2⟩)
     . cases h
   . rename_i he;split at h
     . cases h;rw[he] at hx;exact Xz (by simpa [V.nf] using hx)
     . cases h
   . cases h
 . split at h
   . cases h
   . cases h
   . cases h;exact Xz (by simpa [V.nf] using hr _)
 . cases h;exact Xz (by simp only[V.nf,Zfr];exact⟨Qp7 hr _,Qp7 hr _⟩)
 . split at h
   . exact Qcs (o:= .map [] [] 0) rfl (fun d=>by simp[V.nf,hfr]) hfr h
   . split at h
     . exact Qcs (o:= .map [] [] 0) rfl (fun d=>by simp[V.nf,hfr]) hfr h
     . cases h
   . cases h
 . split at h
   case h_2=>cases h
   split at h
   case h_2=>cases h
   rename_i hz _ _;split at h
   . exact Qcs (o:= .cells _) (Qhd (Br hz) _) (fun d=>by simp[V.nf,hfr]) hfr h
   . cases h
 . exact Qad (fun v hv=>Q43 (hr _) hv) h
 . rename_i x _ _;have hx:=hr x;split at h
   case h_2=>cases h
   split at h
   case h_2=>cases h
   split at h
   case h_2=>cases h
   split at h
   . cases h
   . split at h
     . rename_i he;cases h;rw[he] at hx;exact Xz (by simpa [V.nf] using hx)
     . rename_i he;cases h;rw[he] at hx;exact Xz (by simpa [V.nf] using hx)
     . rename_i he;cases h;rw[he] at hx;exact Xz (by simpa [V.nf] using hx)
     . rename_i he;cases h;rw[he] at hx;exact Xz (by simpa [V.nf] using hx)
     . cases h
 . rename_i x _ _;have hx:=hr x;split at h
   . rename_i he;rw[he] at hx;split at h
     . exact Qad (fun v hv=>Qy9 (by simpa [V.nf] using hx) hv) h
     . cases h
   . cases h
 . exact Qad (fun v hv=>Qwe (hr _) hv) h
 . exact Qad (fun v hv=>Q5s (hr _) hv) h
 . exact Qad (fun v hv=>Q27 hg (hr _) hv) h
 . exact Qrj hg (hr _) (hr _) (hr _) h
 . exact Qrj hg (hr _) (hr _) (hr _) h
 . rename_i t i _;have ht:=hr t;split at h
   . rename_i he;rw[he] at ht;exact Qad (fun v hv=>Qli (by simpa [V.nf] using ht) hv) h
   . cases h
 . rename_i x _ _ _ _;have hx:=hr x;split at h
   . cases h
   . cases h
   . cases h
   . split at h
     . cases h;exact Xz (by simp[V.nf,nfL,Qbs])
     . cases h
   . rename_i he _ _ _;rw[he] at hx;simp only[V.nf] at hx;split at h
     . cases h;split
       . exact Xz (by simp[V.nf,nfL,hx])
       . exact Xz hx
     . split at h
       . cases h;exact Xz (by simp[V.nf,nfL,Qbs])
       . cases h
   . cases h
 . split at h
   . exact Qy2 hg (Qp7 hr _) hfr h
   . rename_i f _;have hf:=hr f;split at h
     . rename_i he;rw[he] at hf;simp only[V.nf,Zfr] at hf;cases h;exact Qcd (Qcd hf.1 (Qp7 hr _)) hf.2
     . rename_i he;rw[he] at hf;simp only[V.nf,Zf6] at hf;cases h;exact⟨hf,Qp7 hr _⟩
     . cases h
   . cases h
 . rename_i x _;have hx:=hr x;split at h
   . rename_i he;cases h;rw[he] at hx;exact hx
   . cases h
 . rename_i x _;have hx:=hr x;unfold rangeV at h;split at h
   . exact Qcs rfl (fun d=>by simp[V.nf,hfr]) hfr h
   . exact Qcs rfl (fun d=>by simp[V.nf,hfr]) hfr h
   . rename_i he;rw[he] at hx;simp only[V.nf] at hx;split at h
     . exact Qcs (by simpa [O.nf] using hx) (fun d=>by simp[V.nf,hfr]) hfr h
     . cases h
   . cases h
 . split at h
   . rename_i x _ _ _;have hx:=hr x;unfold nextS at h;split at h
     . rename_i he;rw[he] at hx;simp only[V.nf,Zf6] at hx;split at h
       . split at h
         . cases h;exact⟨rfl,Z7 hx rfl⟩
         . cases h;exact Xz rfl
       . cases h
     . cases h
   . cases h
 . exact Qad (fun v hv=>Q40 hg (hr _) hv) h
 . exact Qvi hg (hr _) (hr _) h
 . exact Qqc hg (hr _) (hr _) h
 . cases h
end
end Go.AM
end
section
namespace Go.AM
theorem Qsa(H:Qg)(f s:Nat)(o:O)(f' s' :Nat):Qd (Qs H f s o) f' s' =Qd H f' s' \/(f' =f/\s' =s/\Qd (Qs H f s o) f' s' =some o):=by
 by_cases hf:f<H.length
 . rw[B6 H f s o hf];by_cases h:f' =f/\s' =s
   . right;exact⟨h.1,h.2,by rw[if_pos h]⟩
   . left;rw[if_neg h]
 . left;unfold Qd Qs;rw[Ze2];by_cases h:f=f'
   . subst h;rw[Ze6 (by omega)];rfl
   . simp only[h,if_false];cases H[f']?<;>rfl
def ClA(p:Nat->Nat->Bool)(H:Qg):Prop:=∀(f:Nat) (fr:Frame),H[f]?=some fr->∀e∈fr,p f e.1=false->e.2.nf p=true
theorem Qwg{s:Nat}{o:O}:∀{fr:Frame},Qa4 fr s=some o->(s,o)∈fr
 |[],h=>by cases h
 |(k,x)::r,h=>by
  simp only[Qa4] at h;split at h
  . rename_i e;subst e;cases h;simp
  . exact Zfj _ (Qwg h)
theorem Qog{s:Nat}{o:O}{e:Nat×O}:∀{fr:Frame},e∈Qae fr s o->e∈fr\/e=(s,o)
 |[],h=> .inr (Zfx.1 h)
 |(k,x)::r,h=>by
  simp only[Qae] at h;split at h
  . rcases Zfi.1 h with h|h
    . exact .inr h
    . exact .inl (Zfj _ h)
  . split at h
    . rcases Zfi.1 h with h|h
      . exact .inr h
      . exact .inl h
    . rcases Zfi.1 h with h|h
      . exact .inl (by rw[h];simp)
      . rcases Qog h with h|h
        . exact .inl (Zfj _ h)
        . exact .inr h
theorem ClA.cl{p:Nat->Nat->Bool}{H:Qg}(h:ClA p H):ClG p (Qd H):=by
 intro f s o ho hp;unfold Qd at ho;split at ho
 . rename_i fr hfr;exact h f fr hfr (s,o) (Qwg ho) hp
 . cases ho
structure Gd(p:Nat->Nat->Bool)(H0 H:Qg):Prop where
 ca:ClA p H
 keep:∀f s,p f s=true->Qd H f s=Qd H0 f s
 len:H0.length<=H.length
section
variable {p : Nat -> Nat -> Bool} {P : Program} {pol : Pol} {C : Call} {H0 : Qg} {fn fr : Nat}
theorem Gd.cl{H:Qg}(g:Gd p H0 H):ClG p (Qd H):=g.ca.cl
theorem Gd.wr{H:Qg}(g:Gd p H0 H){w:Option (Nat×Nat×O)}(hw:WOk p w):Gd p H0 (AM.wr H w):=by
 cases w with
 |none=>exact g
 |some w=>
  obtain⟨f,s,o⟩:=w;obtain⟨h1,h2⟩:=hw f s o rfl;refine⟨fun f' fr hfr e he hp=>?_,fun f' s' hp=>?_,by simp only[AM.wr,Qa];exact g.len⟩
  . simp only[AM.wr,Qs] at hfr;rw[Ze2] at hfr;obtain⟨fr0,h3,h4⟩:=Zgl.1 hfr;by_cases e1:f=f'
    . subst e1;simp only[if_true] at h4;subst h4;rcases Qog he with h5|h5
      . exact g.ca f fr0 h3 e h5 hp
      . rw[h5];exact h2
    . simp only[e1,if_false] at h4;subst h4;exact g.ca f' _ h3 e he hp
  . rcases Qsa H f s o f' s' with q|⟨rfl,rfl,q⟩
    . exact q.trans (g.keep f' s' hp)
    . rw[h1] at hp;cases hp
theorem Gd.trans{H1 H2:Qg}(a:Gd p H0 H1)(b:Gd p H1 H2):Gd p H0 H2:=⟨b.ca,fun f s h=>(b.keep f s h).trans (a.keep f s h),Ze9 a.len b.len⟩
def Rt.nf(p:Nat->Nat->Bool):Rt->Bool
 | .ret v| .pan v=>v.nf p
def Ex.nf(p:Nat->Nat->Bool):Ex->Bool
 | .panic v=>v.nf p
 |_=>true
def CNF(C:Call):Prop:=∀(p:Nat->Nat->Bool) (f:Option FuncId) (args:List V) (H:Qg) (r:Rt) (H' :Qg),(∀f s,p f s=true->f<H.length)->ClA p H->nfL p args=true->C f args H=some (r,H')->Gd p H H' /\r.nf p=true
def PNF(pol:Pol):Prop:=∀(f:FuncId) (g:Nat->Option Nat->Get->List V->Option (V×Option (Nat×Nat×O))),pol.prim f=some g->∀(p:Nat->Nat->Bool) (fr:Nat) (dst:Option Nat) (G:Get) (args:List V) (x:V×Option (Nat×Nat×O)),
 (∀s,p fr s=false)->ClG p G->nfL p args=true->g fr dst G args=some x->x.1.nf p=true/\WOk p x.2
theorem Qii{f:V->Option V}(hf:∀x y,x.nf p=true->f x=some y->y.pure=true/\y.nf p=true):∀{xs ys:List V},nfL p xs=true->frzL f xs=some ys->Zt ys=true/\nfL p ys=true
 |[],ys,_,h=>by cases h;exact⟨rfl,rfl⟩
 |x::xs,ys,hn,h=>by
  simp only[nfL,Zfr] at hn;unfold frzL at h;split at h
  . rename_i h1 h2;cases h;have a:=hf _ _ hn.1 h1;have b:=Qii hf hn.2 h2;simp[Zt,nfL,a.1,a.2,b.1,b.2]
  . cases h
theorem Qhp{g:Get}(hg:ClG p g):∀(n:Nat) (x y:V),x.nf p=true->frz g n x=some y->y.pure=true/\y.nf p=true
 |0,_,_,_,h=>by cases h
 |n+1,x,y,hx,h=>by
  have ih:∀{xs ys:List V},nfL p xs=true->frzL (frz g n) xs=some ys->Zt ys=true/\nfL p ys=true:=fun a b=>Qii (Qhp hg n) a b;unfold frz at h;split at h
  . split at h
    . rename_i ho;split at h
      . obtain⟨cs,hc,rfl⟩:=Zgl.1 h;have:=ih (Qbz _ (Qcw _ (hg _ _ _ ho (by simpa [V.nf] using hx)))) hc;exact⟨rfl,by simp only[V.nf,Zfr];exact this⟩
      . cases h
    . cases h
  . obtain⟨cs,hc,rfl⟩:=Zgl.1 h;simp only[V.nf,Zfr] at hx;have:=ih hx.2 hc;exact⟨rfl,by simp only[V.nf,Zfr];exact this⟩
  . obtain⟨cs,hc,rfl⟩:=Zgl.1 h;have:=ih (by simpa [V.nf] using hx) hc;exact⟨rfl,by simp only[V.nf,Zfr];exact this⟩
  . split at h
    . rename_i ho;split at h
      . obtain⟨cs,hc,rfl⟩:=Zgl.1 h;have:=ih (show nfL p _=true from hg _ _ _ ho (by simpa [V.nf] using hx)) hc;exact⟨rfl,by simp only[V.nf,Zfr];exact this⟩
      . cases h
    . cases h
  . cases h
  . split at h
    . rename_i ho;obtain⟨cs,hc,rfl⟩:=Zgl.1 h;have:=ih (hg _ _ _ ho (by simpa [V.nf] using hx)) hc;exact⟨rfl,by simp only[V.nf,Zfr];exact this⟩
    . cases h
  . cases h
  . cases h
  . obtain⟨cs,hc,rfl⟩:=Zgl.1 h;exact ih (by simpa [V.nf] using hx) hc
  . obtain⟨cs,hc,rfl⟩:=Zgl.1 h;exact ih (by simpa [V.nf] using hx) hc
  . obtain⟨cs,hc,rfl⟩:=Zgl.1 h;have:=Qhp hg n _ _ (by simpa [V.nf] using hx) hc;simpa [V.pure,V.nf] using this
  . simp only[V.nf,Zfr] at hx;split at h
    . rename_i h1 h2;cases h;have a:=ih hx.1 h1;have b:=ih hx.2 h2;simp only[V.pure,V.nf,Zfr];exact⟨⟨a.1,b.1⟩,a.2,b.2⟩
    . cases h
  . cases h;refine⟨?_,hx⟩;cases x
    case gS=>exfalso;simp_all;rename_i hh;exact hh _ _ _ _ _ rfl rfl rfl rfl rfl
    case mS=>exfalso;simp_all;rename_i hh;exact hh _ _ _ _ _ _ rfl rfl rfl rfl rfl rfl
    case mg=>exfalso;simp_all;rename_i hh;exact hh _ _ _ _ rfl rfl rfl rfl
    case mp=>exfalso;simp_all;rename_i hh;exact hh _ _ _ _ rfl rfl rfl rfl
    all_goals first|rfl|(exfalso;simp_all)
theorem Qtp{g:Get}(hg:ClG p g):∀(n:Nat) (x y:V),x.nf p=true->frzN g n x=some y->y.pure=true/\y.nf p=true
 |0,_,_,_,h=>by cases h
 |n+1,x,y,hx,h=>by
  have ih:∀{xs ys:List V},nfL p xs=true->frzL (frzN g n) xs=some ys->Zt ys=true/\nfL p ys=true:=fun a b=>Qii (Qtp hg n) a b;unfold frzN at h;split at h
  . split at h
    . rename_i ho;split at h
      . obtain⟨cs,hc,rfl⟩:=Zgl.1 h;have:=ih (Qbz _ (Qcw _ (hg _ _ _ ho (by simpa [V.nf] using hx)))) hc;exact⟨rfl,by simp only[V.nf,Zfr];exact this⟩
      . cases h
    . cases h
  . split at h
    . rename_i ho;obtain⟨cs,hc,rfl⟩:=Zgl.1 h;have:=ih (hg _ _ _ ho (by simpa [V.nf] using hx)) hc;exact⟨rfl,by simp only[V.nf,Zfr];exact this⟩
    . cases h
  . split at h
    . split at h
      . obtain⟨cs,hc,rfl⟩:=Zgl.1 h;simp only[V.nf,Zfr] at hx;have:=ih hx.2 hc;exact⟨rfl,by simp only[V.nf,Zfr];exact this⟩
      . cases h
    . cases h
  . split at h
    . rename_i ho;split at h
      . obtain⟨cs,hc,rfl⟩:=Zgl.1 h;have:=ih (show nfL p _=true from hg _ _ _ ho (by simpa [V.nf] using hx)) hc;exact⟨rfl,by simp only[V.nf,Zfr];exact this⟩
      . cases h
    . cases h
  . obtain⟨cs,hc,rfl⟩:=Zgl.1 h;exact ih (by simpa [V.nf] using hx) hc
  . obtain⟨cs,hc,rfl⟩:=Zgl.1 h;exact ih (by simpa [V.nf] using hx) hc
  . obtain⟨cs,hc,rfl⟩:=Zgl.1 h;have:=Qtp hg n _ _ (by simpa [V.nf] using hx) hc;simpa [V.pure,V.nf] using this
  all_goals first|(cases h;exact⟨rfl,rfl⟩)|cases h
theorem Qkr:ClG p (fun _ _=>none):=fun _ _ _ h=>by cases h
theorem Q6a:ClA p []:=fun f fr h=>by simp at h
theorem Qzl{f:V->Option V}(hf:∀x y,x.nf p=true->f x=some y->y.pure=true/\y.nf p=true){q:Nat->Nat->Bool}:∀{xs ys:List (V×V)},nfM p xs=true->Qls f xs=some ys->nfM q ys=true
 |[],ys,_,h=>by cases h;rfl
 |(k,x)::xs,ys,hn,h=>by
  simp only[nfM,Zfr] at hn;unfold Qls at h;split at h
  . rename_i h1 h2 h3;cases h;have a:=hf _ _ hn.1.1 h1;have b:=hf _ _ hn.1.2 h2;simp only[nfM,Zfr];exact⟨⟨Qf8 _ a.1 a.2,Qf8 _ b.1 b.2⟩,Qzl hf hn.2 h3⟩
  . cases h
def pN:Nat->Nat->Bool:=fun _ _=>false
theorem pN_lt{n:Nat}(f s:Nat)(h:pN f s=true):f<n:=by cases h
theorem Qnm(hC:CNF C){f:Option FuncId}{args args' :List V}{g:Get}{n:Nat}(hg:ClG p g)(ha:nfL p args=true)(hf:frzL (frz g n) args=some args'){r:Rt}{H' :Qg}(h:C f args' []=some (r,H')):Gd pN [] H' /\r.nf pN=true:=
 hC pN f args' [] r H' pN_lt Q6a (Qc9 _ (Qii (Qhp hg n) ha hf).1 (Qii (Qhp hg n) ha hf).2) h
theorem Q42{H' H:Qg}{v:V}{dst:Option Nat}{x:V×Nat×O}(hfr:∀s,p fr s=false)(g:ClA pN H')(hv:v.nf pN=true)(h:Qes H' fr dst H v=some x):x.1.nf p=true/\WOk p (some (fr,x.2.1,x.2.2)):=by
 unfold Qes at h;split at h
 . split at h
   . rename_i ho;obtain⟨es,he,rfl⟩:=Zgl.1 h;exact⟨by simp[V.nf,hfr],Z7 (hfr _) (Qzl (Qhp g.cl depth) (show nfM pN _=true from g.cl _ _ _ ho rfl) he)⟩
   . cases h
 . split at h
   . rename_i ho;split at h
     . rename_i hq;cases h;exact⟨by simp[V.nf,hfr],Z7 (hfr _) (Qc9 _ hq (show nfL pN _=true from g.cl _ _ _ ho rfl))⟩
     . cases h
   . cases h
 . split at h
   . split at h
     . rename_i hq;cases h;simp only[V.nf,Zfr] at hv;exact⟨by simp[V.nf,hfr,Qc9 _ hq.2 hv.2],Z7 (hfr _) rfl⟩
     . cases h
   . cases h
 . split at h
   . cases h;exact⟨rfl,Z7 (hfr _) rfl⟩
   . cases h
 . cases h
theorem Qry(hC:CNF C)(hP:PNF pol)(hfr:∀s,p fr s=false)(hp0:∀f s,p f s=true->f<H0.length){dst:Option Nat}{f:FuncId}{args:List V}{H H' :Qg}{r:Rt}(g:Gd p H0 H)(ha:nfL p args=true)
 (h:Zn pol C fn fr dst f args H=some (r,H')):Gd p H0 H' /\r.nf p=true:=by
 unfold Zn at h;split at h
 . rename_i q hq;obtain⟨x,hx,h⟩:=Zgl.1 h;cases h;have:=hP f q hq p fr dst (Qd H) args x hfr g.cl ha hx;exact⟨g.wr this.2,this.1⟩
 . split at h
   . split at h
     . rename_i hf;split at h
       . rename_i hc;obtain⟨v,hv,h⟩:=Zgl.1 h;cases h;have a:=Qnm hC Qkr ha hf hc;have b:=Qhp a.1.cl depth _ _ (by simpa [Rt.nf] using a.2) hv;exact⟨g,Qf8 _ b.1 b.2⟩
       . rename_i hc;obtain⟨v,hv,h⟩:=Zgl.1 h;cases h;have a:=Qnm hC Qkr ha hf hc;have b:=Qhp a.1.cl depth _ _ (by simpa [Rt.nf] using a.2) hv;exact⟨g,Qf8 _ b.1 b.2⟩
       . cases h
     . cases h
   . split at h
     . split at h
       . rename_i hf;split at h
         . rename_i hc;obtain⟨x,hx,h⟩:=Zgl.1 h;cases h;have a:=Qnm hC Qkr ha hf hc;have b:=Q42 hfr a.1.ca (by simpa [Rt.nf] using a.2) hx;exact⟨g.wr b.2,by simpa [Rt.nf] using b.1⟩
         . cases h
       . cases h
     . split at h
       . split at h
         . rename_i hf;split at h
           . rename_i hc;obtain⟨v,hv,h⟩:=Zgl.1 h;cases h;have a:=Qnm hC g.cl ha hf hc;have b:=Qtp a.1.cl depth _ _ (by simpa [Rt.nf] using a.2) hv;exact⟨g,Qf8 _ b.1 b.2⟩
           . cases h
         . cases h
       . split at h
         . rename_i args' hf;unfold Qb0 at hf;have ha' :nfL p args' =true:=by
            split at hf
            . exact(Qii (Qhp (p:=p) Qkr depth) ha hf).2
            . cases hf;exact ha
           have a:=hC p f _ H r H' (fun f s hp=>Zfa (hp0 f s hp) g.len) g.ca ha' (Qf2 (Qi5 (fr:=fr) (X:=fun H=>Qgp (pol.peek fn f) H (C f args' H)) h));exact⟨g.trans a.1,a.2⟩
         . cases h
theorem Qfz{t:List V}(ht:nfL p t=true)(x:Operand):(rho t x).nf p=true:=by
 cases x with
 |tmp i=>
  simp only[rho,List.getD_eq_getElem?_getD];cases h:t[i]? with
  |none=>rfl
  |some v=>exact Qli ht h
 |const v=>exact Qbs v
 |global g=>rfl
 |func f=>rfl
theorem Qh7{t:List V}(ht:nfL p t=true)(d:Option Nat){v:V}(hv:v.nf p=true):nfL p (Z5 t d v)=true:=by
 cases d with
 |none=>exact ht
 |some d=>exact Qx4 d ht hv
theorem Qoa(hC:CNF C)(hP:PNF pol)(hfr:∀s,p fr s=false)(hp0:∀f s,p f s=true->f<H0.length){t t' :List V}{H H' :Qg}{o:Oper}{e:Ex}(ht:nfL p t=true)(g:Gd p H0 H)
 (h:J5 P pol C fn fr t H o=some (e,t',H')):nfL p t' =true/\Gd p H0 H' /\e.nf p=true:=by
 unfold J5 at h;split at h
 . cases h
 . rename_i v w he;have a:=Qnk g.cl (Qfz ht) hfr he;cases h;exact⟨Qh7 ht _ a.1,g.wr a.2,rfl⟩
 . rename_i v he;have a:=Qnk g.cl (Qfz ht) hfr he;cases h;exact⟨ht,g,a⟩
 . rename_i f args he;have a:=Qnk g.cl (Qfz ht) hfr he;split at h
   . rename_i hc;cases h;have b:=Qry hC hP hfr hp0 g a hc;exact⟨Qh7 ht _ (by simpa [Rt.nf] using b.2),b.1,rfl⟩
   . rename_i hc;cases h;have b:=Qry hC hP hfr hp0 g a hc;exact⟨ht,b.1,by simpa [Rt.nf,Ex.nf] using b.2⟩
   . cases h
 . rename_i f s args he;have a:=Qnk g.cl (Qfz ht) hfr he;have hargs:nfL p (V.yield f s::args)=true:=by simp only[nfL,V.nf,Zfr,Zf6];exact a
   split at h
   . rename_i hc;cases h;have b:=hC p _ _ _ _ _ (fun f s hp=>Zfa (hp0 f s hp) g.len) g.ca hargs hc;exact⟨Qh7 ht _ (by simpa [Rt.nf] using b.2),g.trans b.1,rfl⟩
   . cases h
theorem Qia(hC:CNF C)(hP:PNF pol)(hfr:∀s,p fr s=false)(hp0:∀f s,p f s=true->f<H0.length){ops:Array Oper}:∀(l:List Oper) (t t' :List V) (H H' :Qg) (e:Ex),nfL p t=true->Gd p H0 H->
 Yr P pol C fn fr ops l t H=some (e,t',H')->nfL p t' =true/\Gd p H0 H' /\e.nf p=true
 |[],t,t',H,H',e,ht,g,h=>by cases h;exact⟨ht,g,rfl⟩
 |o::r,t,t',H,H',e,ht,g,h=>by
  unfold Yr at h;split at h
  . cases h
  . exact Qia hC hP hfr hp0 r _ t' H H' e (Qh7 ht _ rfl) g h
  . split at h
    . rename_i h1;have a:=Qoa hC hP hfr hp0 ht g h1;exact Qia hC hP hfr hp0 r _ t' _ H' e a.1 a.2.1 h
    . exact Qoa hC hP hfr hp0 ht g h
theorem Qjw(hC:CNF C)(hP:PNF pol)(hfr:∀s,p fr s=false)(hp0:∀f s,p f s=true->f<H0.length){ops:Array Oper}:∀(l:List Oper) (t t' :List V) (H H' :Qg) (T:List FP),nfL p t=true->Gd p H0 H->
 Jc P pol C fn fr ops l t H=some (t',H',T)->nfL p t' =true/\Gd p H0 H'
 |[],t,t',H,H',T,ht,g,h=>by cases h;exact⟨ht,g⟩
 |o::r,t,t',H,H',T,ht,g,h=>by
  unfold Jc at h;split at h
  . cases h
  . split at h
    . rename_i h1;cases h;exact Qjw hC hP hfr hp0 r _ t' H H' _ (Qh7 ht _ rfl) g h1
    . cases h
  . split at h
    . rename_i h1;have a:=Qoa hC hP hfr hp0 ht g h1;split at h
      . rename_i h2;cases h;exact Qjw hC hP hfr hp0 r _ t' _ H' _ a.1 a.2.1 h2
      . cases h
    . cases h
def BNF(p:Nat->Nat->Bool)(H0:Qg)(b:Qas):Prop:=∀t H e t' H',nfL p t=true->Gd p H0 H->b t H=some (e,t',H')->nfL p t' =true/\Gd p H0 H' /\e.nf p=true
def MNF(p:Nat->Nat->Bool)(H0:Qg)(b:Yu):Prop:=∀t H,nfL p t=true->Gd p H0 H->∀x∈b t H,∀e t' H',x=some (e,t',H')->nfL p t' =true/\Gd p H0 H' /\e.nf p=true
theorem Qtx{b:Yu}(hb:MNF p H0 b):∀n,BNF p H0 (Kp b n)
 |0=>fun t H e t' H' _ _ h=>by cases h
 |n+1=>fun t H e t' H' ht g h=>by
  unfold Kp at h;have hne:=Qus h;obtain⟨y,hy⟩:=List.exists_mem_of_ne_nil _ hne;have hy2:=Qih h y hy;obtain⟨x,hx,rfl⟩:=Zfm.1 hy;cases x with
  |none=>cases hy2
  |some x=>
   obtain⟨e1,t1,H1⟩:=x;have a:=hb t H ht g _ hx e1 t1 H1 rfl;cases e1 with
   |normal=>exact Qtx hb n t1 H1 e t' H' a.1 a.2.1 hy2
   |exit i=>cases hy2;exact a
   |ret=>cases hy2;exact a
   |panic v=>cases hy2;exact a
theorem Qt9(keep:List Nat):∀(t:List V) (i:Nat),nfL p t=true->nfL p (Bq keep t i)=true
 |[],_,_=>rfl
 |x::xs,i,h=>by
  simp only[nfL,Zfr] at h;simp only[Bq,nfL,Zfr];exact⟨by split;exact h.1;rfl,Qt9 keep xs _ h.2⟩
theorem Gd.del(hfr:∀s,p fr s=false){H:Qg}(g:Gd p H0 H)(ds:List Nat):Gd p H0 (H.modify fr (Xq fun s=>ds.contains s)):=by
 refine⟨fun f fr1 hfr1 e he hp=>?_,fun f s hp=>?_,by simpa using g.len⟩
 . rw[Ze2] at hfr1;obtain⟨fr0,h3,h4⟩:=Zgl.1 hfr1;have hd:∀(q:Nat->Bool) (l:Frame),e∈Xq q l->e∈l:=by
    intro q l
    induction l with
    |nil=>intro h;exact h
    |cons x l ih=>
     obtain⟨k,o⟩:=x;simp only[Xq];split
     . intro h;exact Zfj _ (ih h)
     . intro h;rcases Zfi.1 h with h|h
       . rw[h];simp
       . exact Zfj _ (ih h)
   by_cases e1:fr=f
   . simp only[e1,if_true] at h4;subst h4;exact g.ca f fr0 h3 e (hd _ _ he) hp
   . simp only[e1,if_false] at h4;subst h4;exact g.ca f _ h3 e he hp
 . rw[Qc3];split
   . rename_i hc;have:f=fr:=by simp_all
     subst this;rw[hfr] at hp;cases hp
   . exact g.keep f s hp
theorem Qye(hfr:∀s,p fr s=false){r:Nat}{t t' :List V}{H H' :Qg}(ht:nfL p t=true)(g:Gd p H0 H)(h:forgetK pol fn fr r t H=some (t',H')):nfL p t' =true/\Gd p H0 H' :=by
 unfold forgetK at h;split at h
 . cases h;exact⟨ht,g⟩
 . rename_i kt ds _;split at h
   . cases h
   . split at h
     . cases h;exact⟨Qt9 _ _ _ ht,g.del hfr ds⟩
     . cases h
theorem Qnz(hfr:∀s,p fr s=false){t:List V}:∀(ds:List Nat) {H H' :Qg},Gd p H0 H->dropAll fr t ds H=some H' ->Gd p H0 H'
 |[],H,H',g,h=>by simp only[dropAll,Zic] at h;subst h;exact g
 |s::r,H,H',g,h=>by
  simp only[dropAll] at h;split at h
  . rename_i H1 h1;refine Qnz hfr r ?_ h;unfold dropOne at h1;split at h1
    . cases h1;exact g
    . split at h1
      . cases h1;exact g.del hfr [s]
      . cases h1
  . cases h
theorem Q62(hfr:∀s,p fr s=false)(a b:Nat){x:V}(h:x.nf p=true):(Qk9 fr a b x).nf p=true:=by
 cases x with
 |gS f s cs n e=>
  simp only[Qk9];split
  . simp only[V.nf,Zfr] at h⊢;exact⟨by rw[hfr];rfl,h.2⟩
  . exact h
 |_=>exact h
theorem Qjq(hfr:∀s,p fr s=false)(b:Nat):∀(ds:List Nat) {t t' :List V} {H H' :Qg},nfL p t=true->Gd p H0 H->moveAll fr b ds t H=some (t',H')->nfL p t' =true/\Gd p H0 H'
 |[],t,t',H,H',ht,g,h=>by
  simp only[moveAll,Zic,Prod.mk.injEq] at h;obtain⟨rfl,rfl⟩:=h;exact⟨ht,g⟩
 |a::r,t,t',H,H',ht,g,h=>by
  simp only[moveAll] at h;split at h
  . rename_i t1 H1 h1;unfold moveOne at h1;split at h1
    . split at h1
      . cases h1
      . split at h1
        . cases h1;refine Qjq hfr b r ?_ ?_ h
          . rw[Qcl] at ht⊢;intro x hx;obtain⟨y,hy,rfl⟩:=Zfm.1 hx;exact Q62 hfr a b (ht y hy)
          . exact(g.del hfr [a]).wr (w:=some (fr,b,_)) (by intro f s o e;cases e;exact⟨hfr _,rfl⟩)
        . cases h1
    . cases h1;exact Qjq hfr b r ht g h
  . cases h
theorem Q2f(hfr:∀s,p fr s=false){r:Nat}{t t' :List V}{H H' :Qg}(ht:nfL p t=true)(g:Gd p H0 H)(h:forget pol fn fr r t H=some (t',H')):nfL p t' =true/\Gd p H0 H' :=by
 unfold forget at h;split at h
 . cases h
 rename_i t1 H1 h1;have a:=Qye hfr ht g h1;split at h
 . cases h;exact a
 split at h
 . cases h
 rename_i H2 h2;exact Qjq hfr _ _ a.1 (Qnz hfr _ a.2 h2) h
theorem Q36{H:Qg}{x:V}(hx:x.nf p=true)(g:Gd p H0 H){cs:List (V×Option (Nat×Nat×O))}(h:Qbh (Qd H) x=some cs):∀c∈cs,c.1.nf p=true/\WOk p c.2:=by
 have leftE_nf:∀(seen:List Nat) (es:List (V×V)) (bs:List Nat),nfM p es=true->∀e∈Qc5 seen es bs,e.1.1.nf p=true/\e.1.2.nf p=true:=by
  intro seen es
  induction es with
  |nil=>intro bs _ e he;simp[Qc5] at he
  |cons y es ih=>
   intro bs hn e he;have hn' :=Qgy.1 hn;cases bs with
   |nil=>simp[Qc5] at he
   |cons b bs=>
    simp only[Qc5] at he;split at he
    . exact ih bs (Qgy.2 fun z hz=>hn' z (Zfj _ hz)) e he
    . rcases Zfi.1 he with rfl|he
      . exact hn' y (by simp)
      . exact ih bs (Qgy.2 fun z hz=>hn' z (Zfj _ hz)) e he
 unfold Qbh at h;split at h
 case h_2=>cases h
 have hxp:=hx;simp only[V.nf,Zf6] at hxp;split at h
 . cases h;intro c hc;rw[Zfx.1 hc];exact⟨rfl,Z7 hxp rfl⟩
 . rename_i m _ _ _ ho;have hi:=g.cl _ _ _ ho hxp;simp only[O.nf,Zf6] at hi;split at h
   case h_2=>cases h
   rename_i hm;have hes:nfM p _=true:=g.cl _ _ _ hm hi;split at h
   case isFalse=>cases h
   split at h
   . cases h;intro c hc;rw[Zfx.1 hc];exact⟨rfl,Z7 hxp rfl⟩
   . cases h;intro c hc;obtain⟨e,he,rfl⟩:=Zfm.1 hc;have:=leftE_nf _ _ _ hes e he;exact⟨by simp[V.nf,nfL,this.1,this.2],Z7 hxp (by simp[O.nf,hi])⟩
 . cases h
theorem Qxk(hfr:∀s,p fr s=false){s:Nat}{t t' :List V}{H H' :Qg}{e:Ex}(ht:nfL p t=true)(g:Gd p H0 H)(h:Qni fr s t H=some (e,t',H')):nfL p t' =true/\Gd p H0 H' /\e.nf p=true:=by
 unfold Qni at h;split at h
 . split at h
   . cases h
   . split at h
     . cases h
     . split at h
       . split at h<;>(cases h;exact⟨ht,g.del hfr [s],rfl⟩)
       . cases h
 . cases h
theorem Qpc(hC:CNF C)(hP:PNF pol)(hfr:∀s,p fr s=false)(hp0:∀f s,p f s=true->f<H0.length){L:Yu->Qas}(hL:∀b,MNF p H0 b->BNF p H0 (L b)):∀c:Code,
 BNF p H0 (Jh P pol C L fn fr c)/\∀v w,v.nf p=true->WOk p w->BNF p H0 (J7 P pol C L fn fr c v w):=by
 have nof:∀{c:Code},(∀v w,J7 P pol C L fn fr c v w=fun _ _=>none)->∀v w,v.nf p=true->WOk p w->BNF p H0 (J7 P pol C L fn fr c v w):=by intro c hc v w _ _ t H e t' H' _ _ h;rw[hc] at h;cases h
 intro c
 induction c with
 |skip=>exact⟨fun t H e t' H' ht g h=>by simp only[Jh] at h;cases h;exact⟨ht,g,rfl⟩,nof fun v w=>by simp only[J7]⟩
 |region id ops draw=>
  constructor
  . intro t H e t' H' ht g h;simp only[Jh] at h;split at h
    . split at h
      . rename_i h1;split at h
        . cases h;have a:=Qjw hC hP hfr hp0 _ _ _ _ _ _ ht g h1;exact⟨a.1,a.2,rfl⟩
        . cases h
      . cases h
    . exact Qia hC hP hfr hp0 _ _ _ _ _ _ ht g h
  . intro v w hv hw t H e t' H' ht g h;simp only[J7] at h;split at h
    . exact Qia hC hP hfr hp0 _ _ _ _ _ _ (Qh7 ht _ hv) (g.wr hw) h
    . cases h
 |seq a b iha ihb=>
  constructor
  . intro t H e t' H' ht g h;simp only[Jh] at h;split at h
    . rename_i h1;have q:=iha.1 _ _ _ _ _ ht g h1;exact ihb.1 _ _ _ _ _ q.1 q.2.1 h
    . exact iha.1 _ _ _ _ _ ht g h
  . intro v w hv hw t H e t' H' ht g h;simp only[J7] at h;split at h
    . rename_i h1;have q:=iha.2 v w hv hw _ _ _ _ _ ht g h1;exact ihb.1 _ _ _ _ _ q.1 q.2.1 h
    . exact iha.2 v w hv hw _ _ _ _ _ ht g h
 |cond c x y ihx ihy=>
  refine⟨?_,nof fun v w=>by simp only[J7]⟩;intro t H e t' H' ht g h;simp only[Jh] at h;split at h
  . split at h
    . exact ihx.1 _ _ _ _ _ ht g h
    . exact ihy.1 _ _ _ _ _ ht g h
  . cases h
 |block id b ih=>
  refine⟨?_,nof fun v w=>by simp only[J7]⟩;intro t H e t' H' ht g h;simp only[Jh] at h;split at h
  . rename_i h1;have q:=ih.1 _ _ _ _ _ ht g h1;split at h
    . cases h;exact⟨q.1,q.2.1,rfl⟩
    . cases h;exact q
  . exact ih.1 _ _ _ _ _ ht g h
 |loop b ih=>
  refine⟨?_,nof fun v w=>by simp only[J7]⟩;intro t H e t' H' ht g h;simp only[Jh] at h;refine hL _ ?_ t H e t' H' ht g h;intro t H ht g x hx e t' H' hxe;cases hf:forget pol fn fr (Jl b) t H with
  |none=>
   simp only[hf,Zfx] at hx;subst hx;cases hxe
  |some q=>
   obtain⟨t1,H1⟩:=q;have q:=Q2f hfr ht g hf;cases hh:Ki b with
   |none=>
    simp only[hf,hh,Zfx] at hx;subst hx;exact ih.1 _ _ _ _ _ q.1 q.2 hxe
   |some z=>
    cases hn:Qbh (Qd H1) (rho t1 z) with
    |none=>
     simp only[hf,hh,hn,Zfx] at hx;subst hx;cases hxe
    |some cs=>
     simp only[hf,hh,hn] at hx;obtain⟨y,hy,rfl⟩:=Zfm.1 hx;have a:=Q36 (Qfz q.1 z) q.2 hn y hy;exact ih.2 _ _ a.1 a.2 _ _ _ _ _ q.1 q.2 hxe
 |exit id=>exact⟨fun t H e t' H' ht g h=>by simp only[Jh] at h;cases h;exact⟨ht,g,rfl⟩,nof fun v w=>by simp only[J7]⟩
 |ret=>exact⟨fun t H e t' H' ht g h=>by simp only[Jh] at h;cases h;exact⟨ht,g,rfl⟩,nof fun v w=>by simp only[J7]⟩
 |rangeFunc x ps a b iha ihb=>
  refine⟨?_,nof fun v w=>by simp only[J7]⟩;intro t H e t' H' ht g h;simp only[Jh] at h;split at h
  . rename_i f first cap he
    have hx:=Qfz (p:=p) ht x;rw[he] at hx;simp only[V.nf,Zfr] at hx;split at h
    . split at h
      . rename_i hc;have g1:Gd p H0 (Qs H fr (Jk (Jy a b)) (.loop 0 none fn (Jy a b) t)):=g.wr (w:=some (fr,_,_)) (Z7 (hfr _) (by simpa [O.nf] using ht));have q:=hC p _ _ _ _ _ (fun f s hp=>Zfa (hp0 f s hp) g1.len) g1.ca (Qcd (Qcd hx.1 (by simp[nfL,V.nf,hfr])) hx.2) hc;exact Qxk hfr ht (g1.trans q.1) h
      . cases h
    . cases h
  . cases h
 |_=>exact⟨fun t H e t' H' ht g h=>(by simp only[Jh] at h;cases h),nof fun v w=>by simp only[J7]⟩
theorem Qsr{t:List V}{H:Qg}(ht:nfL p t=true)(g:Gd p H0 H):∀(rs:List ResultVar) (vs:List V),Qys P t H rs=some vs->nfL p vs=true
 |[],vs,h=>by cases h;rfl
 |r::rs,vs,h=>by
  unfold Qys at h;split at h
  . rename_i v vs' h1 h2;cases h;have a:v.nf p=true:=by
     unfold Qlq at h1;split at h1
     . cases h1;exact Qfz ht (.tmp _)
     . rename_i a T;have hx:=Qfz (p:=p) ht (.tmp a);simp only[rho] at hx;split at h1
       . rename_i he;rw[he] at hx;split at h1
         . rename_i ho;exact Qht (g.cl _ _ _ ho (by simpa [V.nf] using hx)) h1
         . cases h1
       . cases h1
    simp only[nfL,Zfr];exact⟨a,Qsr ht g rs vs' h2⟩
  . cases h
theorem Qy8{t:List V}{H:Qg}{F:Func}{v:V}(ht:nfL p t=true)(g:Gd p H0 H)(h:Qil P F t H=some v):v.nf p=true:=by
 unfold Qil at h;split at h
 . rename_i h1;cases h;have:=Qsr ht g _ _ h1;simpa [nfL] using this
 . rename_i h1;cases h;exact Qsr ht g _ _ h1
 . cases h
theorem Qwr{t:List V}{H H' :Qg}{k:Nat}(ht:nfL p t=true)(g:Gd p H0 H)(h:Qfx t H k=some H'):Gd p H0 H' :=by
 unfold Qfx at h;have hx:=Qfz (p:=p) ht (.tmp k);simp only[rho] at hx;split at h
 . rename_i f s o he;rw[he] at hx;simp only[V.nf,Zf6] at hx;split at h
   . rename_i xs ho;have hxs:nfL p xs=true:=g.cl _ _ _ ho hx;split at h
     . rename_i f1 s1 o1 len cap esz hi;have h1:=Qli hxs hi;simp only[V.nf,Zf6] at h1;split at h
       . rename_i ys hy;have hys:nfL p ys=true:=g.cl _ _ _ hy h1;split at h
         . rename_i hc;cases h;have g1:=g.wr (Z7 (o:= .dead) h1 rfl);refine Gd.wr (w:=some (f,s,_)) g1 (Z7 hx ?_);refine Qx4 _ hxs ?_;simp only[V.nf,Zfr];exact⟨Qr9 _ (Qsf _ hc.2.1),Qbz _ (Qcw _ hys)⟩
         . cases h
       . cases h
     . cases h;exact g
     . cases h
   . cases h
 . cases h;exact g
 . cases h;exact g
 . cases h
theorem Qjj{t:List V}(ht:nfL p t=true):∀(ks:List Nat) {H H' :Qg},Gd p H0 H->Bc ks t H=some H' ->Gd p H0 H'
 |[],_,_,g,h=>by cases h;exact g
 |k::ks,_,_,g,h=>by
  unfold Bc at h;split at h
  . rename_i h1;exact Qjj ht ks (Qwr ht g h1) h
  . cases h
theorem Qh0(hp0:∀f s,p f s=true->f<H0.length){H:Qg}(g:Gd p H0 H)(v:V):Gd p H0 (Yb H0.length v H):=by
 refine⟨fun f fr hfr e he hp=>?_,fun f s hp=>?_,Qbc g.len⟩
 . unfold Yb at hfr;split at hfr
   . rw[Zfh] at hfr;split at hfr
     . exact g.ca f fr hfr e he hp
     . cases hfr
   . exact g.ca f fr hfr e he hp
 . rw[Xm (hp0 f s hp)];exact g.keep f s hp
theorem Gd.push{H:Qg}(hcl:ClA p H):Gd p H (H++[[]]):=⟨fun f fr hfr e he hp=>by
 rcases Ze5 f H.length with q|q
 . rw[Zfy q] at hfr;exact hcl f fr hfr e he hp
 . rw[Zfz q] at hfr;have:f-H.length=0:=by
    have:=(Zf0.1 hfr).1;simp at this;omega
   rw[this] at hfr;simp at hfr
   subst hfr;exact(Zgm he).elim,fun f s _=>Qdz H f s,by simp⟩
theorem Qsc{n:Nat}(hp0:∀f s,p f s=true->f<n)(s:Nat):p n s=false:=by
 cases hq:p n s with
 |false=>rfl
 |true=>exact absurd (hp0 _ _ hq) (Zfg _)
theorem Qom:∀(l:List (Tmp×V)) (t:List V),nfL p t=true->(∀x∈l,x.2.nf p=true)->nfL p (Qeo t l)=true
 |[],_,h,_=>h
 |x::l,t,h,h2=>by
  simp only[Qeo];exact Qom l _ (Qx4 _ h (h2 x (.head _))) fun y hy=>h2 y (.tail _ hy)
theorem Qvz(hp0:∀f s,p f s=true->f<H0.length){fo so:Nat}(hy:p fo so=false){e:Ex}{H:Qg}{r:Rt}{H' :Qg}(g:Gd p H0 H)(h:Qks fo so H0.length e H=some (r,H')):Gd p H0 H' /\r.nf p=true:=by
 unfold Qks at h;split at h
 . rename_i ho;have ht:nfL p _=true:=g.cl _ _ _ ho hy;split at h
   . cases h;exact⟨Qh0 hp0 (g.wr (w:=some (fo,so,_)) (Z7 hy (by simpa [O.nf] using ht))) _,rfl⟩
   . cases h;exact⟨Qh0 hp0 (g.wr (w:=some (fo,so,_)) (Z7 hy (by simpa [O.nf] using ht))) _,rfl⟩
   . cases h;exact⟨Qh0 hp0 (g.wr (w:=some (fo,so,_)) (Z7 hy (by simpa [O.nf] using ht))) _,rfl⟩
   . cases h
 . cases h
theorem Q3h{H:Qg}(hC:CNF C)(hP:PNF pol){L:Yu->Qas}(hL:∀p H0 b,MNF p H0 b->BNF p H0 (L b))(hp0:∀f s,p f s=true->f<H.length)(hcl:ClA p H){fo so:Nat}(hy:p fo so=false){args:List V}(ha:nfL p args=true){r:Rt}{H' :Qg}
 (h:Qmm P pol C L fo so args H=some (r,H')):Gd p H H' /\r.nf p=true:=by
 unfold Qmm at h;split at h
 . rename_i ho;have ht:nfL p _=true:=hcl.cl _ _ _ ho hy;split at h
   . split at h
     . split at h
       . rename_i h1;have q1:=(Qpc (P:=P) (pol:=pol) hC hP (Qsc hp0) hp0 (hL p H) _).1 _ _ _ _ _ (Qom _ _ ht fun x hx=>Qcl.1 ha _ (List.of_mem_zip hx).2) (Gd.push hcl) h1;split at h
         . rename_i ho1;have ht1:nfL p _=true:=q1.2.1.cl _ _ _ ho1 hy;split at h
           . rename_i h2;have q2:=(Qpc (P:=P) (pol:=pol) hC hP (Qsc hp0) hp0 (hL p H) _).1 _ _ _ _ _ q1.1 (q1.2.1.wr (w:=some (fo,so,_)) (Z7 hy (by simpa [O.nf] using ht1))) h2;exact Qvz hp0 hy q2.2.1 h
           . cases h
         . cases h
       . cases h
     . cases h
   . cases h
 . cases h
theorem Q3r{H:Qg}(hC:CNF C)(hP:PNF pol){L:Yu->Qas}(hL:∀p H0 b,MNF p H0 b->BNF p H0 (L b))(hp0:∀f s,p f s=true->f<H.length)(hcl:ClA p H){f:FuncId}{args:List V}(ha:nfL p args=true){r:Rt}{H' :Qg}
 (h:Qhc P pol C L f args H=some (r,H')):Gd p H H' /\r.nf p=true:=by
 unfold Qhc at h;split at h
 case h_2=>cases h
 rename_i F _;split at h
 case h_2=>cases h
 rename_i c _;have hfr:∀s,p H.length s=false:=Qsc hp0;have g0:Gd p H (H++[[]]):=Gd.push hcl;have ht0:nfL p (args++List.replicate (F.ntmps-args.length) .bad)=true:=Qcd ha (nl_rep _ rfl);have ex:=(Qpc (P:=P) (pol:=pol) (fn:=f) (fr:=H.length) hC hP hfr hp0 (hL p H) c).1;have key:∀e t H1,Qbl (pol.settle f) (Jh P pol C L f H.length c (args++List.replicate (F.ntmps-args.length) .bad) (H++[[]]))=some (e,t,H1)->nfL p t=true/\Gd p H H1/\e.nf p=true:=by
  intro e t H1 hs;cases hx:Jh P pol C L f H.length c (args++List.replicate (F.ntmps-args.length) .bad) (H++[[]]) with
  |none=>rw[hx] at hs;cases hs
  |some x=>
   obtain⟨e0,t0,H2⟩:=x;have a:=ex _ _ _ _ _ ht0 g0 hx;rw[hx] at hs;cases e0 with
   |normal=>
    obtain⟨H3,h3,h4⟩:=Zgl.1 hs;cases h4;exact⟨a.1,Qjj a.1 _ a.2.1 h3,rfl⟩
   |ret=>
    obtain⟨H3,h3,h4⟩:=Zgl.1 hs;cases h4;exact⟨a.1,Qjj a.1 _ a.2.1 h3,rfl⟩
   |exit i=>cases hs;exact a
   |panic v=>cases hs;exact a
 split at h
 . rename_i h1;split at h
   . rename_i h2;cases h;have a:=key _ _ _ h1;exact⟨Qh0 hp0 a.2.1 _,by simpa [Rt.nf] using Qy8 a.1 a.2.1 h2⟩
   . cases h
 . rename_i h1;split at h
   . rename_i h2;cases h;have a:=key _ _ _ h1;exact⟨Qh0 hp0 a.2.1 _,by simpa [Rt.nf] using Qy8 a.1 a.2.1 h2⟩
   . cases h
 . rename_i h1;cases h;have a:=key _ _ _ h1;exact⟨Qh0 hp0 a.2.1 _,by simpa [Rt.nf,Ex.nf] using a.2.2⟩
 . cases h
theorem Q2o(hC:CNF C)(hP:PNF pol){L:Yu->Qas}(hL:∀p H0 b,MNF p H0 b->BNF p H0 (L b)):CNF (Qiw P pol C L):=by
 intro p f args H r H' hp0 hcl ha h;unfold Qiw at h;split at h
 . exact Q3r hC hP hL hp0 hcl ha h
 . split at h
   . simp only[nfL,V.nf,Zfr,Zf6] at ha;exact Q3h hC hP hL hp0 hcl ha.1 ha.2 h
   . cases h
theorem Qv9(hP:PNF pol):∀n,CNF (Xa P pol n)
 |0=>fun _ _ _ _ _ _ _ _ _ h=>by cases h
 |n+1=>Q2o (Qv9 hP n) hP fun _ _ _ hb=>Qtx hb n
theorem Q5g(hP:PNF pol):CNF (Zx P pol):=fun p f args H r H' h1 h2 h3 h=>by obtain⟨n,hn⟩:=Xl.1 h;exact Qv9 hP n p f args H r H' h1 h2 h3 hn
theorem CR.keep(hP:PNF pol){f:FuncId}{args:List V}{H:Qg}{R:V->Qg->Prop}(h:CR P pol f args H R)(p:Nat->Nat->Bool)(hp0:∀f s,p f s=true->f<H.length)(hcl:ClA p H)(ha:nfL p args=true):
 CR P pol f args H fun v H' =>R v H' /\Gd p H H' /\v.nf p=true:=by
 obtain⟨r,H',h1,v,rfl,h2⟩:=h;have a:=Q5g hP p f args H _ H' hp0 hcl ha h1;exact⟨_,H',h1,v,rfl,h2,a.1,a.2⟩
theorem Qva{q:Nat->Nat->Bool}:∀(H:Qg),(∀fr∈H,∀e∈fr,e.2.refs q=false)->Jj q H=true
 |[],_=>rfl
 |F::H,h=>by
  simp only[Jj,Zfr];refine⟨?_,Qva H fun fr hf=>h fr (Zfj _ hf)⟩;have h1:=h F (by simp);clear h
  induction F with
  |nil=>rfl
  |cons e F ih=>
   obtain⟨k,o⟩:=e;simp only[Jt,Zfr,Zf6];exact⟨h1 (k,o) (by simp),ih fun x hx=>h1 x (Zfj _ hx)⟩
end
end Go.AM
end
