/- This file holds in one the texts NS2, NS3, NG, RP; each says at its head what it proves. -/
import Derived.Test.YtmapmgfiamfocaaGreatT14
set_option linter.unusedSimpArgs false
set_option linter.unusedVariables false
section
namespace Go.Mod
theorem Qcy{L:Qe}{e:Int}{L' :Qe}{p:Qe->Prop}(h1:e=0->p L')(h2:p L):p (L.turn e L').1:=by
 unfold Qe.turn;split
 . rename_i h;refine h1 ?_;unfold Y1 at h;split at h
   . assumption
   . rename_i h3;exact absurd h h3
 . exact h2
def Kin(L L' :Qe):Prop:=L'.snap=L.snap/\L'.owner=L.owner/\L'.prev=L.prev/\L'.key=L.key
theorem Kin.rfl' (L:Qe):Kin L L:=⟨rfl,rfl,rfl,rfl⟩
theorem Qz0(L:Qe)(s:Qq)(o:Bw):Kin L (L.add s o).1:=by
 unfold Qe.add;split
 . exact⟨rfl,rfl,rfl,rfl⟩
 . exact .rfl' L
theorem Qn7(k:Int)(L:Qe)(c:Zc):Kin L (Kx k L c).1:=by
 unfold Kx;split
 . exact Qz0 _ _ _
 . split
   . unfold Qe.point;split
     . exact .rfl' L
     . exact Qz0 _ _ _
   . split
     . exact Qcy (p:=Kin L) (fun _=>⟨rfl,rfl,rfl,rfl⟩) (.rfl' L)
     . split
       . exact Qcy (p:=Kin L) (fun _=>⟨rfl,rfl,rfl,rfl⟩) (.rfl' L)
       . split
         . exact Qcy (p:=Kin L) (fun _=>⟨rfl,rfl,rfl,rfl⟩) (.rfl' L)
         . split
           . unfold Qe.read;split
             . exact .rfl' L
             . split<;>exact .rfl' L
           . split
             . unfold Qe.write;split
               . exact .rfl' L
               . exact Qcy (p:=Kin L) (fun _=>⟨rfl,rfl,rfl,rfl⟩) (.rfl' L)
             . split
               . unfold Qe.cut;split
                 . exact .rfl' L
                 . exact Qcy (p:=Kin L) (fun _=>⟨rfl,rfl,rfl,rfl⟩) (.rfl' L)
               . split
                 . unfold Qe.stat;split<;>exact .rfl' L
                 . exact .rfl' L
theorem Qoh(k:Int)(L:Qe)(c:Zc):(Kx k L c).1.key=L.key:=(Qn7 k L c).2.2.2
theorem Qgl{s:Qq}(h:Kh s=0):s.length<=14:=by
 unfold Kh at h;split at h
 . rename_i hq;simp only[X8,Bool.and_eq_true,decide_eq_true_eq] at hq;exact hq.1.2
 . cases h
theorem Q7k{l:List Bw}{i:Nat}{o p:Bw}(h:p∈l.set i o):p∈l\/p=o:=List.mem_or_eq_of_mem_set h
theorem Q5.setOb{L:Qe}(h:Q5 L)(i:Int){o:Bw}(ho:o.data.length<=3840):Q5 (L.setOb i o):=
 ⟨by simp[Qe.setOb,h.n16],h.nums,h.few,h.uniq,h.short,fun p hp=>by
   rcases Q7k hp with h1|h1
   . exact h.data p h1
   . rw[h1];exact ho⟩
theorem Qg8(l:List Bw):∀(k i:Nat),i<=Yy l k i/\Yy l k i<=i+k
 |0,i=>by simp[Yy]
 |k+1,i=>by
  unfold Yy;split
  . omega
  . have:=Qg8 l k (i+1);omega
theorem Q5.names{L:Qe}(h:Q5 L){s:Qq}{m:Int}(h1:Zb L.names s=none)(h2:L.names.length<16)(h3:s.length<=14)(h4:1<=m/\m<16):Q5 {L with names:=L.names++[(s,m)]}:=by
 refine⟨h.n16,fun p hp=>?_,by simp;omega,?_,fun p hp=>?_,h.data⟩
 . rcases List.mem_append.1 hp with q|q
   . exact h.nums p q
   . rw[List.mem_singleton.1 q];exact h4
 . rw[List.map_append,List.nodup_append];refine⟨h.uniq,by simp,fun a ha b hb=>?_⟩;simp at hb;subst hb;rintro rfl;exact(Qfs.1 h1) ha
 . rcases List.mem_append.1 hp with q|q
   . exact h.short p q
   . rw[List.mem_singleton.1 q];exact h3
theorem Qi6{l:List (Qq×Int)}{s:Qq}(h:Kj l s=0):Zb l s=none/\l.length<16:=by
 unfold Kj at h;cases hq:Zb l s with
 |some x=>rw[hq] at h;simp at h
 |none=>
  rw[hq] at h;simp only[Option.isSome_none,Bool.false_eq_true,if_false] at h;split at h
  . cases h
  . exact⟨rfl,by omega⟩
theorem Q5.add{L:Qe}(h:Q5 L){s:Qq}{o:Bw}(hs:s.length<=14)(ho:o.data.length<=3840):Q5 (L.add s o).1:=by
 unfold Qe.add;split
 . rename_i he;unfold Qp2 at he;split at he
   . rename_i h1;exact absurd he h1
   . rename_i h1;have h1:Kj L.names s=0:=by simpa using h1
     split at he
     . cases he
     . rename_i h2;have hr:=Qg8 L.objs 15 1;have h3:Q5 (L.setOb (L.free:Int) o):=h.setOb _ ho;have h4:=h3.names (s:=s) (m:=(L.free:Int)) (Qi6 h1).1 (Qi6 h1).2 hs (by unfold Qe.free at h2⊢;omega);exact h4
 . exact h
theorem Qcp:∀(l:List (Qq×Int)) (s:Qq),(J6 l s).Sublist l
 |[],_=> .slnil
 |p::l,s=>by
  unfold J6;split
  . exact List.sublist_cons_self _ _
  . exact(Qcp l s).cons_cons _
theorem Q5.erase{L:Qe}(h:Q5 L)(s:Qq):Q5 {L with names:=J6 L.names s}:=
 ⟨h.n16,fun p hp=>h.nums p ((Qcp _ _).mem hp),Nat.le_trans (Qcp _ _).length_le h.few,h.uniq.sublist ((Qcp _ _).map _),fun p hp=>h.short p ((Qcp _ _).mem hp),h.data⟩
theorem Qw8{l:List (Qq×Int)}{s s' :Qq}(h:Zb l s' =none):Zb (J6 l s) s' =none:=by rw[Qfs] at*;intro hm;obtain⟨p,hp,e⟩:=List.mem_map.1 hm;exact h (List.mem_map.2 ⟨p,(Qcp _ _).mem hp,e⟩)
theorem Qy0{l:List (Qq×Int)}{s:Qq}{n:Int}(h:Zb l s=some n):(J6 l s).length+1=l.length:=by
 induction l with
 |nil=>cases h
 |cons p l ih=>
  simp only[Zb] at h;simp only[J6];split
  . simp
  . rename_i e;rw[if_neg e] at h;simp only[List.length_cons];rw[ih h]
theorem Q1f{l d:Qq}{o:Nat}(h1:l.length<=3840)(h2:o+d.length<=3840):(Qbg l o d).length<=3840:=by
 unfold Qbg;split
 . exact h1
 . unfold over Jg;simp only[List.length_append,List.length_take,List.length_drop,List.length_replicate];omega
theorem Q5.do{L:Qe}(h:Q5 L)(k:Int)(c:Zc)(hn:k≠18->c.name.length<=14):Q5 (Kx k L c).1:=by
 unfold Kx;split
 . rename_i hk;exact h.add (hn (by omega)) (by simp)
 . split
   . rename_i hk;unfold Qe.point;split
     . exact h
     . rename_i h1;have h1:Kh c.as_=0:=by simpa using h1
       exact h.add (hn (by omega)) (by have:=Qgl h1;simp only;omega)
   . split
     . refine Qcy (p:=Q5) (fun he=>?_) h;unfold Qfm at he;split at he
       . rename_i h1;exact absurd he h1
       . rename_i h1;have h1:Kh c.as_=0:=by simpa using h1
         split at he
         . cases he
         . rename_i m hm;split at he
           . cases he
           . have hr:=Qi6 he;rw[hm];have h3:Q5 (L.setOb m {L.ob m with links:=w64 ((L.ob m).links+1)}):=h.setOb _ (h.dat m);exact h3.names (s:=c.as_) (m:=m) hr.1 hr.2 (Qgl h1) (h.num hm)
     . split
       . refine Qcy (p:=Q5) (fun he=>?_) h;refine Q5.erase (L:=L.setOb _ _) (h.setOb _ ?_) c.name;split
         . simp[Qc2]
         . exact h.dat _
       . split
         . refine Qcy (p:=Q5) (fun he=>?_) h;unfold Qaf at he;split at he
           . rename_i h1;exact absurd he h1
           . rename_i h1;have h1:Kh c.as_=0:=by simpa using h1
             split at he
             . rename_i h2;split at he
               . cases he
               . rename_i h3;obtain⟨m,hm⟩:=Option.isSome_iff_exists.1 h2;have h4:Zb L.names c.as_=none:=by
                  cases hq:Zb L.names c.as_ with
                  |none=>rfl
                  |some x=>rw[hq] at h3;simp at h3
                 rw[hm];have hl:=Qy0 hm;have hf:=h.few;exact(h.erase c.name).names (s:=c.as_) (m:=m) (Qw8 h4) (by simp only;omega) (Qgl h1) (h.num hm)
             . cases he
         . split
           . unfold Qe.read;split
             . exact h
             . split<;>exact h
           . split
             . unfold Qe.write;split
               . exact h
               . rename_i hb;refine Qcy (p:=Q5) (fun he=>?_) h;simp only[Bool.or_eq_true,Bool.not_eq_true',inR,Bool.and_eq_false_iff,decide_eq_false_iff_not,decide_eq_true_eq,not_or] at hb;exact h.setOb _ (Q1f (h.dat _) (by omega))
             . split
               . unfold Qe.cut;split
                 . exact h
                 . rename_i hb;refine Qcy (p:=Q5) (fun he=>?_) h;simp only[Bool.not_eq_true',inR,Bool.and_eq_false_iff,decide_eq_false_iff_not,not_or] at hb;refine h.setOb _ ?_;unfold Jg;simp only[List.length_append,List.length_take,List.length_replicate];omega
               . split
                 . unfold Qe.stat;split<;>exact h
                 . exact h
theorem J1.mono{S:MSt}{n m:Nat}(ok:J1 S n)(h:n<=m):J1 S m:=
 ⟨ok.last0,by have:=ok.last1;omega,by have:=ok.cnt;omega,ok.id0,ok.id1,ok.uniq,ok.ok,ok.key,ok.prev,ok.desc⟩
theorem J1.keysSet{S:MSt}{n:Nat}(ok:J1 S n)(i:Nat)(k:Qpf):J1 {S with keys:=S.keys.set i k} n:=
 ⟨ok.last0,ok.last1,ok.cnt,ok.id0,ok.id1,ok.uniq,ok.ok,fun p hp=>by simp only[List.length_set];exact ok.key p hp,ok.prev,ok.desc⟩
theorem J1.put2{S:MSt}{n:Nat}(ok:J1 S n){i:Int}{L L' :Qe}(hL:Zw S.lines i=some L)(h1:Q5 L')(h2:L'.key<S.keys.length)(h3:L'.prev=0\/∃q∈S.lines,q.1=L'.prev/\q.2.snap=true)(h4:L'.snap=L.snap)(h5:L'.snap=true->L'.prev<i):
 J1 {S with lines:=Mod.putL S.lines i L' } n:=by
 have hm:=Zh hL;have back:∀q∈S.lines,∃p∈Mod.putL S.lines i L',p.1=q.1/\p.2.snap=q.2.snap:=by
  intro q hq;have hq2:=Qaa ok.uniq (i:=q.1) (L:=q.2) hq;have h5:=Qeh S.lines i q.1 L';split at h5
  . rename_i e;refine⟨_,Zh h5,rfl,?_⟩;rw[<-e.1,hq2] at hL;cases hL;exact h4
  . rw[hq2] at h5;exact⟨_,Zh h5,rfl,rfl⟩
 refine⟨ok.last0,ok.last1,?_,fun p hp=>?_,fun p hp=>?_,by rw[Qdd];exact ok.uniq,fun p hp=>?_,fun p hp=>?_,fun p hp=>?_,fun p hp=>?_⟩
 . have e:=congrArg List.length (Qdd S.lines i L');simp only[ids,List.length_map] at e;simp only[e];exact ok.cnt
 . rcases Qd7 hp with q|rfl
   . exact ok.id0 p q
   . exact ok.id0 (i,L) hm
 . rcases Qd7 hp with q|rfl
   . exact ok.id1 p q
   . exact ok.id1 (i,L) hm
 . rcases Qd7 hp with q|rfl
   . exact ok.ok p q
   . exact h1
 . rcases Qd7 hp with q|rfl
   . exact ok.key p q
   . exact h2
 . have hh:p.2.prev=0\/∃q∈S.lines,q.1=p.2.prev/\q.2.snap=true:=by
    rcases Qd7 hp with q|rfl
    . exact ok.prev p q
    . exact h3
   rcases hh with h0|⟨r,hr,e1,e2⟩
   . exact .inl h0
   . obtain⟨r',hr',f1,f2⟩:=back r hr;exact .inr ⟨r',hr',f1.trans e1,f2.trans e2⟩
 . rcases Qd7 hp with q|rfl
   . exact ok.desc p q
   . exact h5
theorem J1.grow{S:MSt}{n:Nat}(ok:J1 S n)(ks:List Qpf){L:Qe}(h1:Q5 L)(h2:L.key<(S.keys++ks).length)(h3:L.prev=0\/∃q∈S.lines,q.1=L.prev/\q.2.snap=true)(h5:L.snap=true->L.prev<S.last+1):
 J1 ⟨S.last+1,S.keys++ks,S.lines++[(S.last+1,L)]⟩ (n+1):=by
 have l0:=ok.last0;have l1:=ok.last1;have mem:∀p∈S.lines++[(S.last+1,L)],p∈S.lines\/p=(S.last+1,L):=fun p hp=>by
  rcases List.mem_append.1 hp with q|q
  . exact .inl q
  . exact .inr (List.mem_singleton.1 q)
 have pr:∀{x:Int},(x=0\/∃q∈S.lines,q.1=x/\q.2.snap=true)->(x=0\/∃q∈S.lines++[(S.last+1,L)],q.1=x/\q.2.snap=true):=fun{x} h=>by
  rcases h with h|⟨q,hq,e⟩
  . exact .inl h
  . exact .inr ⟨q,List.mem_append_left _ hq,e⟩
 refine⟨by simp only;omega,by simp only;omega,by simp only[List.length_append,List.length_cons,List.length_nil];have:=ok.cnt;omega,fun p hp=>?_,fun p hp=>?_,?_,fun p hp=>?_,fun p hp=>?_,fun p hp=>?_,fun p hp=>?_⟩
 . rcases mem p hp with q|rfl
   . exact ok.id0 p q
   . simp only;omega
 . rcases mem p hp with q|rfl
   . have:=ok.id1 p q;simp only;omega
   . exact Int.le_refl _
 . simp only[ids,List.map_append,List.map_cons,List.map_nil,List.nodup_append];refine⟨ok.uniq,by simp,fun a ha b hb=>?_⟩;simp at hb;subst hb;obtain⟨p,hp,rfl⟩:=List.mem_map.1 ha;have:=ok.id1 p hp;omega
 . rcases mem p hp with q|rfl
   . exact ok.ok p q
   . exact h1
 . rcases mem p hp with q|rfl
   . have:=ok.key p q;simp only[List.length_append];omega
   . exact h2
 . rcases mem p hp with q|rfl
   . exact pr (ok.prev p q)
   . exact pr h3
 . rcases mem p hp with q|rfl
   . exact ok.desc p q
   . exact h5
theorem J1.prom{S:MSt}{n:Nat}(was a:Int):∀(k:Nat) (l:List (Int×Qe)) (i:Int),J1 {S with lines:=l} n->J1 {S with lines:=Yz was a k l i} n
 |0,l,i,h=>h
 |k+1,l,i,h=>by
  unfold Yz;split
  . exact h
  . split
    . exact h
    . rename_i x hx;split
      . refine J1.prom was a k _ _ ?_;exact h.putL (L:=x) hx ((h.line hx).owner a) rfl rfl rfl
      . exact h
theorem Qxx(id:Int)(k:Nat):Q5 (Bb id k):=
 ⟨by simp[Bb],by simp[Bb],by simp[Bb],by simp[Bb],by simp[Bb],fun o ho=>by
   have:o=Qc2:=List.eq_of_mem_replicate ho
   rw[this];simp[Qc2]⟩
theorem Q0s(l:List (Int×Qe))(i:Int):(Qa0 l i).Sublist l:=by
 induction l with
 |nil=>exact .slnil
 |cons x l ih=>
  simp only[Qa0];split
  . exact List.sublist_cons_self _ _
  . exact ih.cons_cons _
theorem Q09{l:List (Int×Qe)}(hu:(ids l).Nodup){i:Int}{p:Int×Qe}(h:p∈l)(hne:p.1≠i):p∈Qa0 l i:=by
 induction l with
 |nil=>cases h
 |cons x l ih=>
  simp only[ids,List.map_cons,List.nodup_cons] at hu;simp only[Qa0];rcases List.mem_cons.1 h with rfl|h
  . rw[if_neg (fun e=>hne e.symm)];simp
  . split
    . exact h
    . exact List.mem_cons_of_mem _ (ih hu.2 h)
theorem Q3c{l:List (Int×Qe)}(hu:(ids l).Nodup){i:Int}{p:Int×Qe}(h:p∈Qa0 l i):p.1≠i:=by
 induction l with
 |nil=>cases h
 |cons x l ih=>
  simp only[ids,List.map_cons,List.nodup_cons] at hu;simp only[Qa0] at h;split at h
  . rename_i e;rintro rfl;exact hu.1 (List.mem_map.2 ⟨p,h,e⟩)
  . rename_i e;rcases List.mem_cons.1 h with rfl|h
    . exact fun e2=>e e2.symm
    . exact ih hu.2 h
theorem Qd8(l:List (Int×Qe))(a b:Int):ids (Xs l a b)=ids l:=by simp only[ids,Xs,List.map_map];apply List.map_congr_left;intro p _;simp only[Function.comp];split<;>rfl
theorem Qs5{S:MSt}{n:Nat}(ok:J1 S n){i:Int}{L:Qe}(hL:Zw S.lines i=some L):J1 {S with lines:=Qa0 (Xs S.lines i L.prev) i} n:=by
 have hm:=Zh hL;have sub:=Q0s (Xs S.lines i L.prev) i;have hu:(ids (Xs S.lines i L.prev)).Nodup:=by rw[Qd8];exact ok.uniq
 have mem:∀p∈Qa0 (Xs S.lines i L.prev) i,p.1≠i/\∃q∈S.lines,p=if q.2.prev=i then(q.1,{q.2 with prev:=L.prev}) else q:=by intro p hp;refine⟨Q3c hu hp,?_⟩;obtain⟨q,hq,rfl⟩:=List.mem_map.1 (sub.mem hp);exact⟨q,hq,rfl⟩
 have back:∀q∈S.lines,q.1≠i->∃p∈Qa0 (Xs S.lines i L.prev) i,p.1=q.1/\p.2.snap=q.2.snap:=by
  intro q hq hne;refine⟨if q.2.prev=i then(q.1,{q.2 with prev:=L.prev}) else q,Q09 hu (List.mem_map.2 ⟨q,hq,rfl⟩) ?_,?_,?_⟩
  . split<;>exact hne
  . split<;>rfl
  . split<;>rfl
 have snapI:∀q∈S.lines,q.2.prev=i->L.snap=true:=by
  intro q hq e;rcases ok.prev q hq with h0|⟨r,hr,e1,e2⟩
  . have:=ok.id0 _ hm;simp only at this;omega
  . have h1:=Qaa ok.uniq (i:=r.1) (L:=r.2) hr;rw[e1,e,hL] at h1;cases h1;exact e2
 have hne:L.prev≠i:=by intro e;have h1:=snapI _ hm e;have:=ok.desc _ hm h1;simp only at this;omega
 refine⟨ok.last0,ok.last1,?_,fun p hp=>?_,fun p hp=>?_,hu.sublist (sub.map _),fun p hp=>?_,fun p hp=>?_,fun p hp=>?_,fun p hp=>?_⟩
 . have:=sub.length_le;simp only[Xs,List.length_map] at this;have:=ok.cnt;simp only[Xs];omega
 . obtain⟨_,q,hq,rfl⟩:=mem p hp;have:=ok.id0 q hq;split<;>exact this
 . obtain⟨_,q,hq,rfl⟩:=mem p hp;have:=ok.id1 q hq;split<;>exact this
 . obtain⟨_,q,hq,rfl⟩:=mem p hp;have h:=ok.ok q hq;split
   . exact⟨h.n16,h.nums,h.few,h.uniq,h.short,h.data⟩
   . exact h
 . obtain⟨_,q,hq,rfl⟩:=mem p hp;have:=ok.key q hq;split<;>exact this
 . obtain⟨_,q,hq,rfl⟩:=mem p hp;split
   . rcases ok.prev _ hm with h0|⟨r,hr,e1,e2⟩
     . exact .inl h0
     . obtain⟨r',hr',f1,f2⟩:=back r hr (by rw[e1];exact hne);exact .inr ⟨r',hr',f1.trans e1,f2.trans e2⟩
   . rename_i hq2;rcases ok.prev q hq with h0|⟨r,hr,e1,e2⟩
     . exact .inl h0
     . obtain⟨r',hr',f1,f2⟩:=back r hr (by rw[e1];exact hq2);exact .inr ⟨r',hr',f1.trans e1,f2.trans e2⟩
 . obtain⟨_,q,hq,rfl⟩:=mem p hp;split
   . rename_i hq2;intro hs;have h1:=ok.desc q hq hs;have h2:=ok.desc _ hm (snapI q hq hq2);simp only at h2⊢;omega
   . exact ok.desc q hq
theorem Q5.like{L L' :Qe}(h:Q5 L)(h1:L'.names=L.names)(h2:L'.objs=L.objs):Q5 L' :=
 ⟨by rw[h2];exact h.n16,by rw[h1];exact h.nums,by rw[h1];exact h.few,by rw[h1];exact h.uniq,by rw[h1];exact h.short,by rw[h2];exact h.data⟩
theorem Qtb{S:MSt}{n:Nat}(ok:J1 S n)(c:Zc):J1 (Z0 S c).1 (n+1):=by
 have same:J1 S (n+1):=ok.mono (Nat.le_succ n);have l0:=ok.last0;unfold Z0;split
 . unfold Q2;split
   . unfold Qng;split
     . exact same
     . exact ok.grow [⟨c.text,true⟩] (Qxx _ _) (by simp[Bb]) (.inl rfl) (by simp[Bb])
   . split
     . unfold Qdf;split
       . exact same
       . rename_i L hL;split
         . exact same
         . rename_i hs;have hm:=Zh hL;have hk:=ok.key _ hm;have g:=ok.grow [] (L:={L with snap:=true}) ((ok.line hL).like rfl rfl) (by simpa using hk) (ok.prev _ hm) (fun _=>by
            simp only;rcases ok.prev _ hm with h0|⟨q,hq,e1,e2⟩
            . simp only at h0;omega
            . have:=ok.id1 q hq;simp only at e1;omega)
           simp only[List.append_nil] at g;have hL2:Zw (S.lines++[(S.last+1,{L with snap:=true})]) c.a=some L:=Qaa g.uniq (List.mem_append_left _ hm);exact g.put2 (L:=L) hL2 ((ok.line hL).like rfl rfl) hk (.inr ⟨_,List.mem_append_right _ (List.mem_singleton.2 rfl),rfl,rfl⟩) rfl (fun h=>absurd h hs)
     . split
       . unfold Qan;split
         . exact same
         . rename_i L hL;split
           . exact same
           . rename_i hs;have hm:=Zh hL;have hk:=ok.key _ hm;have g:=ok.grow [] (L:={L with snap:=false,prev:=c.a,owner:=S.last+1}) ((ok.line hL).like rfl rfl) (by simpa using hk) (.inr ⟨_,hm,rfl,by simpa using hs⟩) (by simp);simpa only[List.append_nil] using g
       . split
         . unfold Yq;split
           . exact same
           . split
             . exact same
             . split
               . exact same
               . exact(J1.prom (S:=S) _ _ _ _ _ ok).mono (Nat.le_succ n)
         . split
           . unfold Qca;split
             . exact same
             . rename_i L hL;split
               . exact same
               . split
                 . exact same
                 . split
                   . exact same
                   . rename_i x hx;have hm:=Zh hL;exact(ok.put2 hL (L' :={L with names:=x.names,objs:=x.objs}) ((ok.line hx).like rfl rfl) (ok.key _ hm) (ok.prev _ hm) rfl (ok.desc _ hm)).mono (Nat.le_succ n)
           . split
             . unfold Y3;split
               . exact same
               . rename_i L hL;split
                 . exact same
                 . exact(Qs5 ok hL).mono (Nat.le_succ n)
             . split
               . unfold Qcc;split
                 . exact same
                 . split
                   . exact same
                   . split
                     . exact same
                     . exact(ok.keysSet _ _).mono (Nat.le_succ n)
               . split
                 . unfold Xx;split
                   . exact same
                   . split
                     . exact same
                     . exact(ok.keysSet _ _).mono (Nat.le_succ n)
                 . split
                   . exact same
                   . split
                     . unfold Bz;split<;>exact same
                     . exact same
 . split
   . exact same
   . split
     . exact same
     . rename_i L hL;split
       . exact same
       . split
         . exact same
         . rename_i hb;have kin:=Qn7 c.kind L c;have hok:Q5 (Kx c.kind L c).1:=(ok.line hL).do c.kind c (fun hk=>by
            have:Kh c.name=0:=by
             rcases Classical.em (Kh c.name=0) with h|h
             . exact h
             . exact absurd ⟨hk,h⟩ hb
            exact Qgl this)
           exact(ok.putL hL hok kin.2.2.2 kin.2.2.1 kin.1).mono (Nat.le_succ n)
def Qlk(r:Zi):Prop:=r.names.length<=1000/\r.lines.length<=1000
theorem Zr(e:Int):Qlk (Zl e):=⟨by simp[Zl],by simp[Zl]⟩
theorem Qhe{r:Zi}(h1:r.names=[])(h2:r.lines=[]):Qlk r:=⟨by simp[h1],by simp[h2]⟩
theorem Qef(L:Qe)(e:Int)(L' :Qe):Qlk (L.turn e L').2:=by unfold Qe.turn;split<;>exact Zr _
theorem Qre(L:Qe)(s:Qq)(o:Bw):Qlk (L.add s o).2:=by unfold Qe.add;split<;>exact Zr _
theorem Qss(k:Int)(L:Qe)(ok:Q5 L)(c:Zc):Qlk (Kx k L c).2:=by
 unfold Kx;split
 . exact Qre _ _ _
 . split
   . unfold Qe.point;split
     . exact Zr _
     . exact Qre _ _ _
   . split
     . exact Qef _ _ _
     . split
       . exact Qef _ _ _
       . split
         . exact Qef _ _ _
         . split
           . unfold Qe.read;split
             . exact Zr _
             . split
               . exact Zr _
               . exact Qhe rfl rfl
           . split
             . unfold Qe.write;split
               . exact Zr _
               . exact Qef _ _ _
             . split
               . unfold Qe.cut;split
                 . exact Zr _
                 . exact Qef _ _ _
               . split
                 . unfold Qe.stat;split
                   . exact Zr _
                   . exact Qhe rfl rfl
                 . refine⟨?_,by simp[Qe.list,Zl]⟩;have h1:=(Go.AM.sortB_perm (L.names.map (·.1))).length_eq;have h2:=ok.few;simp only[Qe.list];rw[h1,List.length_map];omega
theorem Q5j{S:MSt}{n:Nat}(ok:J1 S n)(hn:n<=1000)(c:Zc):Qlk (Z0 S c).2:=by
 unfold Z0;split
 . unfold Q2;split
   . unfold Qng;split
     . exact Zr _
     . exact Qhe rfl rfl
   . split
     . unfold Qdf;split
       . exact Zr _
       . split
         . exact Zr _
         . exact Qhe rfl rfl
     . split
       . unfold Qan;split
         . exact Zr _
         . split
           . exact Zr _
           . exact Qhe rfl rfl
       . split
         . unfold Yq;split
           . exact Zr _
           . split
             . exact Zr _
             . split<;>exact Zr _
         . split
           . unfold Qca;split
             . exact Zr _
             . split
               . exact Zr _
               . split
                 . exact Zr _
                 . split<;>exact Zr _
           . split
             . unfold Y3;split
               . exact Zr _
               . split<;>exact Zr _
             . split
               . unfold Qcc;split
                 . exact Zr _
                 . split
                   . exact Zr _
                   . split<;>exact Zr _
               . split
                 . unfold Xx;split
                   . exact Zr _
                   . split<;>exact Zr _
                 . split
                   . refine⟨by simp[Qwn,Zl],?_⟩;have h1:=(Go.AM.sortZ_perm (ids S.lines)).length_eq;have h2:=ok.cnt;simp only[Qwn];rw[h1];simp only[ids,List.length_map];omega
                   . split
                     . unfold Bz;split<;>exact Zr _
                     . exact Zr _
 . split
   . exact Zr _
   . split
     . exact Zr _
     . rename_i L hL;split
       . exact Zr _
       . split
         . exact Zr _
         . exact Qss _ L (ok.line hL) c
theorem Qj3(was a:Int):∀(k:Nat) (l:List (Int×Qe)) (i:Int),ids (Yz was a k l i)=ids l
 |0,_,_=>rfl
 |k+1,l,i=>by
  simp only[Yz];split
  . rfl
  . split
    . rfl
    . split
      . rw[Qj3,Qdd]
      . rfl
theorem Qz7(l:List (Int×Qe))(i:Int)(hu:(ids l).Nodup):ids (Qa0 l i)=(ids l).filter fun x=>x≠i:=by
 induction l with
 |nil=>rfl
 |cons p l ih=>
  simp only[ids,List.map_cons,List.nodup_cons] at hu;simp only[Qa0];by_cases e:i=p.1
  . rw[if_pos e];simp only[ids,List.map_cons];rw[List.filter_cons_of_neg (by simp[e]),List.filter_eq_self.2]
    . intro x hx;simp only[ne_eq,decide_eq_true_eq];rintro rfl;exact hu.1 (e▸hx)
  . rw[if_neg e];simp only[ids,List.map_cons] at ih⊢;rw[List.filter_cons_of_pos (by simpa using fun h=>e h.symm),ih hu.2]
theorem Qxj{l:List (Int×Qe)}{i:Int}{L:Qe}(h:Zw l i=some L):i∈ids l:=List.mem_map.2 ⟨_,Zh h,rfl⟩
theorem Qkg(L:Qe)(e:Int)(L' :Qe):(L.turn e L').2.id=0:=by unfold Qe.turn;split<;>rfl
theorem Q22(L:Qe)(s:Qq)(o:Bw):(L.add s o).2.id=0:=by unfold Qe.add;split<;>rfl
theorem Q2j(k:Int)(L:Qe)(c:Zc):(Kx k L c).2.id=0:=by
 unfold Kx;split
 . exact Q22 _ _ _
 . split
   . unfold Qe.point;split
     . rfl
     . exact Q22 _ _ _
   . split
     . exact Qkg _ _ _
     . split
       . exact Qkg _ _ _
       . split
         . exact Qkg _ _ _
         . split
           . unfold Qe.read;split
             . rfl
             . split<;>rfl
           . split
             . unfold Qe.write;split
               . rfl
               . exact Qkg _ _ _
             . split
               . unfold Qe.cut;split
                 . rfl
                 . exact Qkg _ _ _
               . split
                 . unfold Qe.stat;split<;>rfl
                 . rfl
inductive Qvk(S:MSt)(c:Zc):MSt->Zi->Prop
 |same {S' r} (h1:r.id=0) (h2:c.kind=6->r.err≠0) (h3:S'.last=S.last) (h4:ids S'.lines=ids S.lines):Qvk S c S' r
 |more {S' r} (h1:r.id=S.last+1) (h2:c.kind≠6) (h3:S'.last=S.last+1) (h4:ids S'.lines=ids S.lines++[S.last+1]):Qvk S c S' r
 |less {S' r} (h1:r.id=0) (h2:c.kind=6) (h5:r.err=0) (h3:S'.last=S.last) (h4:ids S'.lines=(ids S.lines).filter fun x=>x≠c.a) (h6:c.a∈ids S.lines):Qvk S c S' r
theorem Je{S:MSt}{c:Zc}{e:Int}(h:c.kind=6->e≠0):Qvk S c S (Zl e):= .same rfl h rfl rfl
theorem gone_r{S:MSt}{n:Nat}(ok:J1 S n)(c:Zc):Qvk S c (Z0 S c).1 (Z0 S c).2:=by
 unfold Z0;split
 . unfold Q2;split
   . rename_i k;have k6:c.kind≠6:=by omega
     unfold Qng;split
     . exact Je (fun h=>absurd h k6)
     . exact .more rfl k6 rfl (by simp[ids])
   . split
     . rename_i k;have k6:c.kind≠6:=by omega
       unfold Qdf;split
       . exact Je (fun h=>absurd h k6)
       . split
         . exact Je (fun h=>absurd h k6)
         . exact .more rfl k6 rfl (by simp only[Qdd];simp[ids])
     . split
       . rename_i k;have k6:c.kind≠6:=by omega
         unfold Qan;split
         . exact Je (fun h=>absurd h k6)
         . split
           . exact Je (fun h=>absurd h k6)
           . exact .more rfl k6 rfl (by simp[ids])
       . split
         . rename_i k;have k6:c.kind≠6:=by omega
           unfold Yq;split
           . exact Je (fun h=>absurd h k6)
           . split
             . exact Je (fun h=>absurd h k6)
             . split
               . exact Je (fun h=>absurd h k6)
               . exact .same rfl (fun h=>absurd h k6) rfl (Qj3 _ _ _ _ _)
         . split
           . rename_i k;have k6:c.kind≠6:=by omega
             unfold Qca;split
             . exact Je (fun h=>absurd h k6)
             . split
               . exact Je (fun h=>absurd h k6)
               . split
                 . exact Je (fun h=>absurd h k6)
                 . split
                   . exact Je (fun h=>absurd h k6)
                   . exact .same rfl (fun h=>absurd h k6) rfl (Qdd _ _ _)
           . split
             . rename_i k;unfold Y3;split
               . exact Je (fun _=>by decide)
               . rename_i L hL;split
                 . exact Je (fun _=>by decide)
                 . refine .less rfl k rfl rfl ?_ (Qxj hL);show ids (Qa0 _ _)=_;rw[Qz7 _ _ (by rw[Qd8];exact ok.uniq),Qd8]
             . rename_i k6;split
               . unfold Qcc;split
                 . exact Je (fun h=>absurd h k6)
                 . split
                   . exact Je (fun h=>absurd h k6)
                   . split
                     . exact Je (fun h=>absurd h k6)
                     . exact .same rfl (fun h=>absurd h k6) rfl rfl
               . split
                 . unfold Xx;split
                   . exact Je (fun h=>absurd h k6)
                   . split
                     . exact Je (fun h=>absurd h k6)
                     . exact .same rfl (fun h=>absurd h k6) rfl rfl
                 . split
                   . exact .same rfl (fun h=>absurd h k6) rfl rfl
                   . split
                     . unfold Bz;split<;>exact Je (fun h=>absurd h k6)
                     . exact Je (fun h=>absurd h k6)
 . rename_i hh;split
   . exact Je (fun _=>by decide)
   . have k6:c.kind≠6:=by
      rintro h;rw[h] at hh;exact hh rfl
     split
     . exact Je (fun h=>absurd h k6)
     . split
       . exact Je (fun h=>absurd h k6)
       . split
         . exact Je (fun h=>absurd h k6)
         . exact .same (Q2j _ _ _) (fun h=>absurd h k6) rfl (Qdd _ _ _)
theorem Q61{S:MSt}{n:Nat}(ok:J1 S n)(h:(ids S.lines).Pairwise (· < ·))(c:Zc):(ids (Z0 S c).1.lines).Pairwise (· < ·):=by
 cases gone_r ok c with
 |same h1 h2 h3 h4=>rw[h4];exact h
 |more h1 h2 h3 h4=>
  rw[h4,List.pairwise_append];refine⟨h,List.pairwise_singleton _ _,fun a ha b hb=>?_⟩;obtain⟨p,hp,rfl⟩:=List.mem_map.1 ha;have:=ok.id1 p hp;simp only[List.mem_singleton] at hb;omega
 |less h1 h2 h5 h3 h4 h6=>rw[h4];exact h.sublist List.filter_sublist
theorem Qwu{l:List Int}(h:l.Pairwise (· < ·)):Go.AM.sortZ l=l:=by
 refine(List.Perm.eq_of_pairwise (le:=fun a b=>Go.AM.leZ a b=true) (fun a b _ _ h1 h2=>?_) (Go.AM.sortZ_sorted l) (h.imp fun{a b} q=>?_) (Go.AM.sortZ_perm l))
 . simp only[Go.AM.leZ,decide_eq_true_eq] at h1 h2;omega
 . simp only[Go.AM.leZ,decide_eq_true_eq];omega
open Go.AM Go.RowKit Go.Sort Go.Maps Go.Proofs
theorem Q28:∀x y:List UInt8,Op.bytesLess x y=decide (x<y)
 |[],[]=>by simp[Op.bytesLess]
 |[],_::_=>by simp[Op.bytesLess]
 |_::_,[]=>by simp[Op.bytesLess]
 |a::x,b::y=>by
  rw[Op.bytesLess,Q28 x y];apply Bool.eq_iff_iff.2;simp only[Zgj,Zfr,decide_eq_true_eq,beq_iff_eq,List.cons_lt_cons_iff]
theorem Q5h(a b:Qq):Op.bytesLess a b=true->leB a b=true:=by intro h;rw[Q28] at h;simp only[leB,decide_eq_true_eq] at h⊢;exact List.le_of_lt h
def gtB(a s:Qq):Bool:= !(Op.bytesLess a s||a==s)
theorem Q2v{a s:Qq}(h:gtB a s=true):leB s a=true:=by simp only[gtB,Zf6,Zf5] at h;rw[Q28] at h;simp only[leB,decide_eq_true_eq,decide_eq_false_iff_not] at h⊢;exact List.not_lt.1 h.1
theorem gtB_ge{a s:Qq}(h:gtB a s=false):leB a s=true:=by
 simp only[gtB,Bool.not_eq_false',Zgj,beq_iff_eq] at h;rcases h with h|rfl
 . exact Q5h _ _ h
 . simp only[leB,decide_eq_true_eq];exact List.le_refl _
def Qi8(l:List (Qq×Int)):Prop:=l.Pairwise fun a b=>leB a.1 b.1=true
def Qlx(s:Qq)(o:Int):List (Qq×Int)->List (Qq×Int)
 |[]=>[(s,o)]
 |p::l=>if gtB p.1 s then(s,o)::p::l else p::Qlx s o l
theorem Qce(s:Qq)(o:Int):∀l,(Qlx s o l).Perm ((s,o)::l)
 |[]=> .refl _
 |p::l=>by
  unfold Qlx;split
  . exact .refl _
  . exact((Qce s o l).cons p).trans (List.Perm.swap _ _ _)
theorem Qvj(s:Qq)(o:Int)(l:List (Qq×Int)):(Qlx s o l).length=l.length+1:=(Qce s o l).length_eq
theorem Qd9{s:Qq}{o:Int}:∀{l:List (Qq×Int)},Qi8 l->Qi8 (Qlx s o l)
 |[],_=>List.pairwise_singleton _ _
 |p::l,h=>by
  obtain⟨h1,h2⟩:=Zgr.1 h;unfold Qlx;split
  . rename_i hg;refine Zgr.2 ⟨fun q hq=>?_,h⟩;rcases Zfi.1 hq with rfl|hq
    . exact Q2v hg
    . exact Ql0 (Q2v hg) (h1 q hq)
  . rename_i hg;refine Zgr.2 ⟨fun q hq=>?_,Qd9 h2⟩;rcases Zfi.1 ((Qce s o l).mem_iff.1 hq) with rfl|hq
    . exact gtB_ge (by simpa using hg)
    . exact h1 q hq
def Qdo(s:Qq)(o:Int):Bool->List (Qq×Int)->List (Qq×Int)
 |d,[]=>if d then[] else[(s,o)]
 |d,p::l=>if !d&&gtB p.1 s then(s,o)::p::Qdo s o true l else p::Qdo s o d l
theorem Qsu(s:Qq)(o:Int):∀l,Qdo s o true l=l
 |[]=>rfl
 |p::l=>by simp[Qdo,Qsu s o l]
theorem Qsq(s:Qq)(o:Int):∀l,Qdo s o false l=Qlx s o l
 |[]=>rfl
 |p::l=>by simp only[Qdo,Qlx,Zgo,Zge,Qsu,Qsq s o l]
def Qjp(s:Qq)(l:List (Qq×Int)):List (Qq×Int):=l.filter fun p=>p.1 !=s
theorem Q0n{s:Qq}{l l' :List (Qq×Int)}(h:l.Perm l'):(Qjp s l).Perm (Qjp s l'):=h.filter _
theorem Qi2{s:Qq}{l:List (Qq×Int)}(h:Qi8 l):Qi8 (Qjp s l):=h.sublist List.filter_sublist
theorem Qnu{s:Qq}:∀{l:List (Qq×Int)},(l.map (·.1)).Nodup->Qjp s l=J6 l s
 |[],_=>rfl
 |p::l,h=>by
  rw[Zfn,Zgq] at h;unfold J6;by_cases e:s=p.1
  . rw[if_pos e];unfold Qjp;rw[List.filter_cons_of_neg (by simp[e]),List.filter_eq_self.2];intro q hq;simp only[bne_iff_ne,ne_eq];rintro rfl;exact h.1 (e▸Zfm.2 ⟨q,hq,rfl⟩)
  . rw[if_neg e];unfold Qjp;rw[List.filter_cons_of_pos (by simpa using fun h=>e h.symm)];exact congrArg _ (Qnu h.2)
theorem Qy3{l:List (Qq×Int)}(h:(l.map (·.1)).Nodup){s:Qq}{n:Int}(hm:(s,n)∈l):Zb l s=some n:=by
 induction l with
 |nil=>cases hm
 |cons p l ih=>
  rw[Zfn,Zgq] at h;unfold Zb;rcases Zfi.1 hm with rfl|hm
  . simp
  . rw[if_neg,ih h.2 hm];rintro rfl;exact h.1 (Zfm.2 ⟨_,hm,rfl⟩)
theorem Qxz{l l' :List (Qq×Int)}(h:l.Perm l')(hu:(l'.map (·.1)).Nodup)(s:Qq):Zb l s=Zb l' s:=by
 have hu' :(l.map (·.1)).Nodup:=(h.map _).nodup_iff.2 hu;cases hn:Zb l' s with
 |none=>
  rw[Qfs] at hn⊢;exact fun hm=>hn ((h.map _).mem_iff.1 hm)
 |some n=>exact Qy3 hu' (h.mem_iff.2 (Qk8 hn))
theorem Qta{l l' :List (Qq×Int)}(h:l.Perm l')(hr:Qi8 l):l.map (·.1)=sortB (l'.map (·.1)):=by refine List.Perm.eq_of_pairwise (le:=fun a b=>leB a b=true) (fun a b _ _ h1 h2=>?_) (Zgt.2 hr) (Qgn _) ((h.map _).trans (sortB_perm _).symm);simp only[leB,decide_eq_true_eq] at h1 h2;exact List.le_antisymm h1 h2
end Go.Mod
end
