/- This file holds in one the texts F18, LN1, DJ, F9, LN2, E12, F11, F13, F17; each says at its head what it proves. -/
import Derived.Test.YtjllfbejpjonnaaGreatDoorT18
import Derived.Test.YtjllfbejpjonnaaGreatDoorT22
import Derived.Test.YtjllfbejpjonnaaGreatDoorT24
set_option linter.unusedSimpArgs false
set_option linter.unusedVariables false
section
set_option maxRecDepth 100000
namespace Go.Proofs.YtjllfbejpjonnaaGreatDoor
open Go.AM
attribute [local irreducible] U W
theorem Qel{pol:Pol}{fn fr:Nat}{dst:Option Nat}{f:FuncId}{args args' :List V}{v:V}{H H' :Heap}{x:V×Nat×O}{P:Program}(hp:pol.prim f=none)(hq:pol.pure fn f=false)(hl:pol.lift fn f=true)(ha:Q5 (frz (fun _ _=>none) depth) args=some args')(h:Qn P pol f args' []=some (.ret v,H'))(hv:Qb5 H' fr dst H v=some x):
 callOp pol (Qn P pol) fn fr dst f args H=some (.ret x.1,wr H (some (fr,x.2.1,x.2.2))):=by
 simp only[callOp,hp,hq,hl,ha,h,hv,Zn5,if_false,if_true,Zn2]
def zB(n:Nat):List UInt8:=List.replicate n 0
theorem Qeq(n:Nat):(zB n).length=n:=by simp[zB]
theorem Qs4:∀n,zerosN [V.int .u8 0] n=Qb (zB n)
 |0=>rfl
 |n+1=>by
  have:=Qs4 n;simp only[zerosN,this];rfl
theorem Zda(n:Nat)(hn:0<n)(hn2:n<=1048576):CW Tp Qg 220 [.nS,.int .i64 n] [] fun r H=>r= .ret (.mS 0 22 0 0 none 1)/\Qd H 0 22=some (.cells (Qb (zB n))):=by
 refine Zu Tryz.func220 rfl ?_;have c1:decide ((n:Int)<0)=false:=by simp
 have c2:decide ((n:Int)>0)=true:=by simp;omega
 have w0:(IntKind.i64).wrap 0=0:=rfl;have w1:(IntKind.i64).wrap ((n:Int)-0)=n:=by rw[wrap_i64]<;>omega
 have w2:(IntKind.i64).wrap (n:Int)=n:=by rw[wrap_i64]<;>omega
 have mt:Qg.mt 220 22=true:=rfl;have cp:∀g d,builtinV Tp (Qg.mt 220) 0 g d .cap #[26] [.nS]=some (.val (.int .i64 0) none):=fun g d=>by simp only[builtinV,capV,Zu0];rfl
 have sn:∀g,Zn Tp g 26 .nS none (some (.int .i64 0)) none=some .nS:=fun g=>by have ol:Jt (some (.int .i64 0))=some (some 0):=rfl;have on:Jt none=some none:=rfl;simp only[Zn,ol,on,Zu0,sz5];rfl
 have sm:∀g,Zn Tp g 26 (.mS 0 22 0 n none 1) none (some (.int .i64 0)) none=some (.mS 0 22 0 0 none 1):=fun g=>by
  have ol:Jt (some (.int .i64 0))=some (some 0):=rfl;have on:Jt none=some none:=rfl;have cu:Xh n n none (some 0) none=some (0,0,n):=by simp[Xh]
  simp only[Zn,ol,on,Zu0,sz5,Qjg,cu,if_true];rw[if_neg (by simp),if_pos hn]
 have ap:Qr Tp (Qg.mt 220) 0 (Qd [[]]) (some 22) 26 3 .nS (.int .i64 n)=some (.val (.mS 0 22 0 n none 1) (some (0,22,.cells (Qb (zB n))))):=by
  obtain⟨m,rfl⟩:∃m,n=m+1:=⟨n-1,by omega⟩;have r1:J4 (m+1) 1=true:=Zw (by omega) (by omega);have asr:Ji Tp (Qd [[]]) 3 1 1 [.int .u8 0] (.int .i64 ((m+1:Nat):Int))=some (Qb (zB (m+1)),m+1):=by simp only[Ji,Zu3];rw[if_pos ⟨by omega,by simpa using r1⟩,<-Qs4];rfl
  have z1:zeroCells Tp 5=some [.int .u8 0]:=zc5;simp only[Qr,Zu0,sz5,Qj0,z1,asr,appendTo,r1,if_true];rw[if_pos (show[V.int .u8 0].length=1 from rfl),Qav mt (Z8 _) rfl]
 simp only[wX,↓Qc,simprocAttr,Tryz.ntmps220,c1,c2,w0,w1,w2,Qv,ap,Zu0,cp,sn,sm];refine W.done (End.ret (v:= .mS 0 22 0 0 none 1) rfl ⟨rfl,?_⟩);rw[Zj rfl];rfl
theorem Qih{α:Type}(l:List (List α))(i:Nat)(h:i<l.length):(l.take (i+1)).flatten=(l.take i).flatten++l[i]:=by rw[Zqm h,Zon];simp
theorem Zc5{α:Type}(l:List (List α))(i:Nat):((l.take i).flatten).length<=l.flatten.length:=by
 have:l.flatten=(l.take i).flatten++(l.drop i).flatten:=by rw[<-Zon,Zoi]
 rw[this,Zom];omega
def Qex(l:List (List UInt8))(i:Nat):List UInt8:=(l.take i).flatten++zB (l.flatten.length-((l.take i).flatten).length)
theorem Q6x(l:List (List UInt8))(i:Nat)(h:i<l.length):((Qex l i).take ((l.take i).flatten).length)++l[i]++(Qex l i).drop (((l.take i).flatten).length+l[i].length)=Qex l (i+1):=by
 have e:=Qih l i h;have e1:((l.take (i+1)).flatten).length=((l.take i).flatten).length+l[i].length:=by rw[e,Zom]
 unfold Qex;rw[List.take_left,<-Zol,List.drop_left,e1,e];have:(zB (l.flatten.length-((l.take i).flatten).length)).drop l[i].length=zB (l.flatten.length-(((l.take i).flatten).length+l[i].length)):=by unfold zB;rw[List.drop_replicate];congr 1;omega
 rw[this]
theorem Qii(v:V)(rows:List (List UInt8))(hv:Z2 v rows)(hn:rows.length<=1048576)(hl:rows.flatten.length<=1048576)(hpos:0<rows.flatten.length):
 Fz Tp Qg 165 [v] fun r=>r= .iS (Qb rows.flatten) rows.flatten.length false:=by
 refine Zm Tryz.func165 rfl ?_;obtain⟨cs,hc,hv⟩:=hv;have len:=hv.len Zu1;have w0:∀n:Nat,n<=4194304->(IntKind.i64).wrap (n:Int)=n:=fun n hn=>by rw[wrap_i64]<;>omega
 generalize hN:rows.flatten.length=N at*;have hle:∀i,((rows.take i).flatten).length<=N:=fun i=>by rw[<-hN];exact Zc5 rows i
 have row:∀i:Nat,(h:i<rows.length)->∃w,Qm Tp 22 v (.int .i64 i)=some (.iptr cs ((i:Int).toNat*1))/\(cs[(i:Int).toNat*1]?=some w/\cs[(i:Int).toNat]?=some w)/\Qe w rows[i]:=fun i h=>by obtain⟨w,h1,h2⟩:=hc.at_ h;refine⟨w,hv.at (k:= .i64) Zu1 Qau (by decide) (i:=(i:Int)) (by omega) (by omega),⟨by simpa using h1,by simpa using h1⟩,h2⟩
 simp only[wX,↓Qc,simprocAttr,Tryz.ntmps165,len];refine W.ul ?_;refine W.loopS (kt:=[0,3,9,10,11]) rfl (fun i:Nat=>Q3y v (.int .i64 (((rows.take i).flatten).length:Nat)) v (.int .i64 rows.length) (.int .i64 i)) (fun _=>[[]]) (fun i=>i<=rows.length) (fun i=>rows.length-i) ?_ 0 (Zq1 _) rfl rfl;rintro i hi;simp only[Q3y];by_cases h:i<rows.length
 . have c1:decide ((i:Int)<rows.length)=true:=Zrh (by omega);obtain⟨w,at1,⟨ld1,ld2⟩,hw⟩:=row i h;have lw:=hw.len Zu0;have e1:((rows.take (i+1)).flatten).length=((rows.take i).flatten).length+rows[i].length:=by rw[Qih rows i h,Zom]
   have hx:=hle (i+1);have wa:(IntKind.i64).wrap ((((rows.take i).flatten).length:Nat)+(rows[i].length:Int))=((((rows.take i).flatten).length+rows[i].length:Nat):Int):=by rw[wrap_i64]<;>omega
   have wi:(IntKind.i64).wrap ((i:Int)+1)=((i+1:Nat):Int):=by rw[wrap_i64]<;>omega
   have c2:decide (((((rows.take i).flatten).length+rows[i].length:Nat):Int)<0)=false:=by simp only[decide_eq_false_iff_not];omega
   have sw:=Q4 hw;rw[<-e1] at wa c2;simp only[wX,↓Qc,simprocAttr,c1,at1,ld1,ld2,lw,wa,wi,c2,sw];exact W.done ⟨i+1,rfl,rfl,h,by omega⟩
 . have c1:decide ((i:Int)<rows.length)=false:=Zri (by omega);have hi' :i=rows.length:=by omega
   subst hi';have eN:((rows.take rows.length).flatten).length=N:=by rw[Zqg,hN]
   obtain⟨r,H1,g1,rfl,g2⟩:=Zda N hpos hl;have lf:∀(H:Heap),Qd H 0 24=none->callOp Qg (Qn Tp Qg) 165 0 (some 24) 220 [.nS,.int .i64 N] H=some (.ret (.mS 0 24 0 0 none 1),wr H (some (0,24,.cells (Qb (zB N))))):=fun H hg=>
    Qel (x:=(.mS 0 24 0 0 none 1,24,.cells (Qb (zB N)))) rfl rfl rfl rfl g1 (by simp only[Qb5,hg,g2,Ja,if_true])
   have lf0:=lf [[]] rfl;rw[eN];simp only[wX,↓Qc,simprocAttr,c1,lf0];refine W.done ?_;simp only[wX,↓Qc,simprocAttr,c1,lf0,len];refine W.ul ?_;refine W.loopS (kt:=[6,25,26,27]) rfl (fun i:Nat=>Qw3 (.mS 0 24 0 (((rows.take i).flatten).length) none 1) v (.int .i64 rows.length) (.int .i64 i)) (fun i=>[[(24,.cells (Qb (Qex rows i)))]]) (fun i=>i<=rows.length) (fun i=>rows.length-i) ?_ 0 (Zq1 _) rfl (by rw[show Qex rows 0=zB N by simp[Qex,hN]]);rintro i hi;simp only[Qw3];have catl:(Qb (Qex rows i)).length=N:=by have:=hle i;rw[Qy,Qex,hN,Zom,Qeq];omega
   by_cases h:i<rows.length
   . have c1:decide ((i:Int)<rows.length)=true:=Zrh (by omega);obtain⟨w,at1,⟨ld1,ld2⟩,hw⟩:=row i h;have wi:(IntKind.i64).wrap ((i:Int)+1)=((i+1:Nat):Int):=by rw[wrap_i64]<;>omega
     have sw:=Q4 hw;have e1:((rows.take (i+1)).flatten).length=((rows.take i).flatten).length+rows[i].length:=by rw[Qih rows i h,Zom]
     have hx:=hle (i+1);have sc:∀g,Qk g 1 w=some (Qb rows[i],rows[i].length):=fun g=>Qw.sc hw;by_cases h0:rows[i].length=0
     . have ap:Qr Tp (Qg.mt 165) 0 (Qd [[(24,.cells (Qb (Qex rows i)))]]) (some 33) 26 26 (.mS 0 24 0 (((rows.take i).flatten).length) none 1) w=some (.val (.mS 0 24 0 (((rows.take (i+1)).flatten).length) none 1) none):=by
        rw[e1,h0,Zq0];exact Qbe (cs:=Qb rows[i]) Zu0 sz5 Qj0 zc5 rfl Zu0 rfl (by rw[sc,h0])
       have ec:Qex rows (i+1)=Qex rows i:=by have:rows[i]=[]:=Zoz h0;unfold Qex;rw[Qih rows i h,this,Zou]
       simp only[wX,↓Qc,simprocAttr,c1,at1,ld1,ld2,wi,sw,Qv,ap,Zu0];exact W.done ⟨i+1,rfl,by rw[ec],h,by omega⟩
     . obtain⟨m,hm⟩:∃m,rows[i].length=m+1:=⟨rows[i].length-1,by omega⟩;have ap:Qr Tp (Qg.mt 165) 0 (Qd [[(24,.cells (Qb (Qex rows i)))]]) (some 33) 26 26 (.mS 0 24 0 (((rows.take i).flatten).length) none 1) w=some (.val (.mS 0 24 0 (((rows.take (i+1)).flatten).length) none 1) (some (0,24,.cells (Qb (Qex rows (i+1)))))):=by
        have r1:J4 (((rows.take i).flatten).length+(m+1)) 1=true:=Zw (by omega) (by omega);have z1:zeroCells Tp 5=some [.int .u8 0]:=zc5;have sc1:=sc (Qd [[(24,.cells (Qb (Qex rows i)))]]);rw[hm] at sc1;have hg:Qd [[(24,O.cells (Qb (Qex rows i)))]] 0 24=some (.cells (Qb (Qex rows i))):=rfl;have asr:Ji Tp (Qd [[(24,.cells (Qb (Qex rows i)))]]) 26 1 1 [.int .u8 0] w=some (Qb rows[i],m+1):=by simp only[Ji,Zu0,sc1]
        simp only[Qr,Zu0,sz5,Qj0,z1,asr,appendTo,r1,hg,and_self,if_true];rw[if_pos (show[V.int .u8 0].length=1 from rfl),if_pos ⟨by omega,Z8 _,by omega⟩,e1,hm,Zod,Zof,Qfw,Q6x rows i h]
       simp only[wX,↓Qc,simprocAttr,c1,at1,ld1,ld2,wi,sw,Qv,ap,Zu0];exact W.done ⟨i+1,rfl,rfl,h,by omega⟩
   . have c1:decide ((i:Int)<rows.length)=false:=Zri (by omega);have hi' :i=rows.length:=by omega
     subst hi';simp only[wX,↓Qc,simprocAttr,c1];refine W.done ?_;simp only[wX,↓Qc,simprocAttr];have ec:Qex rows rows.length=rows.flatten:=by unfold Qex;rw[Zqg,Nat.sub_self];simp[zB]
     rw[eN,ec];have:=Q2q (g:=Qd [[(24,O.cells (Qb rows.flatten))]]) (f:=0) (s:=24) (l:=rows.flatten) rfl 10;rw[hN] at this;exact W.done (Q0.ret (v:= .mS 0 24 0 N none 1) rfl this rfl)
end Go.Proofs.YtjllfbejpjonnaaGreatDoor
namespace Go.Proofs.YtjllfbejpjonnaaGreatDoor
open Go.AM
attribute [local irreducible] U W
def Bj(fr d esz n:Nat)(cells:List V)(w:V)(o:O):Prop:=(n=0/\cells=[]/\w= .nS/\o= .dead)\/∃cap,w= .mS fr d 0 n cap esz/\o= .cells cells
theorem Bj.sc{fr d esz n:Nat}{cells:List V}{w:V}{o:O}(h:Bj fr d esz n cells w o):w.scalar=true:=by rcases h with⟨_,_,rfl,_⟩|⟨_,rfl,_⟩<;>rfl
theorem Bj.cells{fr d esz n:Nat}{cells:List V}{w:V}{o:O}(h:Bj fr d esz n cells w o):w.cells=some [w]:=by rcases h with⟨_,_,rfl,_⟩|⟨_,rfl,_⟩<;>rfl
theorem Bj.len{P:Program}{u e:TypeId}{fr d esz n:Nat}{cells:List V}{w:V}{o:O}(h:Bj fr d esz n cells w o)(hu:P.underlying u=some (.slice e)):∀g,Ku P g u w=some (.int .i64 n):=by
 intro g;rcases h with⟨rfl,_,rfl,_⟩|⟨_,rfl,_⟩
 . exact Ql9 hu
 . exact Qk5 hu g
theorem Qoh{pol:Pol}{P:Program}{C:FuncId}{v:V}{cs:List V}{n k:Nat}(hp:Qu cs=true)(hq:pol.prim C=none)
 (h:∃r K',Qn P pol (some C) [v] []=some (r,K')/\((v= .nS/\n=0/\cs=[]/\r= .ret .nS)\/∃f s cap,v= .iS cs n f/\r= .ret (.mS 0 s 0 n cap k)/\Qd K' 0 s=some (.cells cs)))
 (hf:Q5 (frz (fun _ _=>none) depth) [v]=some [v]){fn fr d:Nat}{H:Heap}(ha:pol.pure fn C=false)(hl:pol.lift fn C=true)(hd:Qd H fr d=none):
 ∃w o,callOp pol (Qn P pol) fn fr (some d) C [v] H=some (.ret w,hset H fr d o)/\Bj fr d k n cs w o/\((v= .nS/\n=0/\cs=[]/\w= .nS/\o= .dead)\/∃f cap,v= .iS cs n f/\w= .mS fr d 0 n cap k/\o= .cells cs):=by
 obtain⟨r,K',h1,⟨h0,h2,h4,rfl⟩|⟨f,s,cap,h0,rfl,h3⟩⟩:=h
 . refine⟨.nS,.dead,?_,.inl ⟨h2,h4,rfl,rfl⟩,.inl ⟨h0,h2,h4,rfl,rfl⟩⟩;exact Qel (x:=(.nS,d,.dead)) hq ha hl hf h1 (by simp only[Qb5,hd])
 . refine⟨.mS fr d 0 n cap k,.cells cs,?_,.inr ⟨cap,rfl,rfl⟩,.inr ⟨f,cap,h0,rfl,rfl⟩⟩;exact Qel (x:=(.mS fr d 0 n cap k,d,.cells cs)) hq ha hl hf h1 (by simp only[Qb5,hd,h3,hp,if_true])
theorem bybL:(match byt Tp 52 with|some b=>decide (b<=128)|none=>false)=true:=by kernel_rfl
theorem bycL:∃b,byt Tp 52=some b/\b<=128:=by
 have h:=bybL;cases hb:byt Tp 52 with
 |none=>rw[hb] at h;cases h
 |some b=>rw[hb] at h;exact⟨b,rfl,of_decide_eq_true h⟩
theorem Zb4(v:V)(cs:List V)(n:Nat)(hv:Qw 13 v cs n)(hn:n<=65536)(hsc:cs.all V.scalar=true):
 ∃r K',Qn Tp Qg (some 59) [v] []=some (r,K')/\((v= .nS/\n=0/\cs=[]/\r= .ret .nS)\/∃f s cap,v= .iS cs n f/\r= .ret (.mS 0 s 0 n cap 13)/\Qd K' 0 s=some (.cells cs)):=by
 have key:CW Tp Qg 59 [v] [] fun r K' =>((v= .nS/\n=0/\cs=[]/\r= .ret .nS)\/∃f s cap,v= .iS cs n f/\r= .ret (.mS 0 s 0 n cap 13)/\Qd K' 0 s=some (.cells cs)):=by
  refine Zu Tryz.func59 rfl ?_;obtain⟨hlen,⟨rfl,h0⟩|⟨f,rfl⟩⟩:=id hv
  . have e:∀p q,Zq Tp .eql 33 p q .nS .nS=some (.bool true):=fun p q=>rfl;simp only[wX,↓Qc,simprocAttr,Tryz.ntmps59,e];exact W.done (End.ret (v:= .nS) rfl (.inl (by
     have hcs:cs=[]:=Zoz (by rw[hlen,h0,Zq9])
     first|exact⟨rfl,h0,hcs,rfl⟩|exact⟨h0,hcs,rfl⟩)))
  . have sc:∀g,Qk g 13 (.iS cs n f)=some (cs,n):=fun g=>Qw.sc hv;have mt5:Qg.mt 59 5=true:=rfl;have mt7:Qg.mt 59 7=true:=rfl;obtain⟨b,hb,hb2⟩:=bycL;have g5:Qd [[(5,O.cells [])]] 0 5=some (.cells []):=rfl;by_cases h0:n=0
    . subst h0;have hcs:cs=[]:=Zoz (by rw[hlen,Zq9]);subst hcs;have ap:Qr Tp (Qg.mt 59) 0 (Qd [[(5,O.cells [])]]) (some 7) 33 33 (.mS 0 5 0 0 (some 0) 13) (.iS [] 0 f)=some (.val (.mS 0 5 0 0 (some 0) 13) none):=
       Qbe Zu6 Qin hb zc52 rfl Zu6 rfl (sc _)
      simp only[wX,↓Qc,simprocAttr,Tryz.ntmps59,Jj Zu6,mt5,Qv,ap,Zu6];refine W.done (End.ret (v:= .mS 0 5 0 0 (some 0) 13) rfl (.inr ⟨f,5,some 0,rfl,rfl,?_⟩));rw[Zj rfl];rfl
    . have n7:Qd [[(5,O.cells [])]] 0 7=none:=rfl;have ap:Qr Tp (Qg.mt 59) 0 (Qd [[(5,O.cells [])]]) (some 7) 33 33 (.mS 0 5 0 0 (some 0) 13) (.iS cs n f)=some (.val (.mS 0 7 0 n none 13) (some (0,7,.cells cs))):=by
       obtain⟨m,rfl⟩:∃m,n=m+1:=⟨n-1,by omega⟩;have r1:J4 (0+(m+1)) b=true:=Zw (Zn7 (Zra (by omega:0+(m+1)<=65536) hb2) (by decide)) (by omega);have zl:zeroCells Tp 52=some _:=zc52;have gm:=Qav (mt:=Qg.mt 59) (g:=Qd [[(5,O.cells [])]]) (fr:=0) (d:=7) (cs:=cs) (m:=m+1) (n:=13) (chk:=cs) mt7 hsc n7;simp only[Qr,Zu6,Qin,hb,zl,Ji,sc,appendTo,g5,r1];simpa using gm
      simp only[wX,↓Qc,simprocAttr,Tryz.ntmps59,Jj Zu6,mt5,Qv,ap,Zu6];refine W.done (End.ret (v:= .mS 0 7 0 n none 13) rfl (.inr ⟨f,7,none,rfl,rfl,?_⟩));rw[Zj rfl];rfl
 obtain⟨r,K',h,h2⟩:=key;exact⟨r,K',h,h2⟩
theorem clL_op(v:V)(cs:List V)(n:Nat)(hv:Qw 13 v cs n)(hn:n<=65536)(hsc:cs.all V.scalar=true)(hp:Qu cs=true){fn fr d:Nat}{H:Heap}(ha:Qg.pure fn 59=false)(hd:Qd H fr d=none):
 ∃w o,callOp Qg (Qn Tp Qg) fn fr (some d) 59 [v] H=some (.ret w,hset H fr d o)/\Bj fr d 13 n cs w o/\((v= .nS/\n=0/\cs=[]/\w= .nS/\o= .dead)\/∃f cap,v= .iS cs n f/\w= .mS fr d 0 n cap 13/\o= .cells cs):=
 Qoh hp rfl (Zb4 v cs n hv hn hsc) (Qa (hv.frz 11) rfl) ha rfl hd
theorem bybC:(match byt Tp 43 with|some b=>decide (b<=128)|none=>false)=true:=by kernel_rfl
theorem bycC:∃b,byt Tp 43=some b/\b<=128:=by
 have h:=bybC;cases hb:byt Tp 43 with
 |none=>rw[hb] at h;cases h
 |some b=>rw[hb] at h;exact⟨b,rfl,of_decide_eq_true h⟩
theorem Zdn(v:V)(cs:List V)(n:Nat)(hv:Qw 12 v cs n)(hn:n<=65536)(hsc:cs.all V.scalar=true):
 ∃r K',Qn Tp Qg (some 26) [v] []=some (r,K')/\((v= .nS/\n=0/\cs=[]/\r= .ret .nS)\/∃f s cap,v= .iS cs n f/\r= .ret (.mS 0 s 0 n cap 12)/\Qd K' 0 s=some (.cells cs)):=by
 have key:CW Tp Qg 26 [v] [] fun r K' =>((v= .nS/\n=0/\cs=[]/\r= .ret .nS)\/∃f s cap,v= .iS cs n f/\r= .ret (.mS 0 s 0 n cap 12)/\Qd K' 0 s=some (.cells cs)):=by
  refine Zu Tryz.func26 rfl ?_;obtain⟨hlen,⟨rfl,h0⟩|⟨f,rfl⟩⟩:=id hv
  . have e:∀p q,Zq Tp .eql 34 p q .nS .nS=some (.bool true):=fun p q=>rfl;simp only[wX,↓Qc,simprocAttr,Tryz.ntmps26,e];exact W.done (End.ret (v:= .nS) rfl (.inl (by
     have hcs:cs=[]:=Zoz (by rw[hlen,h0,Zq9])
     first|exact⟨rfl,h0,hcs,rfl⟩|exact⟨h0,hcs,rfl⟩)))
  . have sc:∀g,Qk g 12 (.iS cs n f)=some (cs,n):=fun g=>Qw.sc hv;have mt5:Qg.mt 26 5=true:=rfl;have mt7:Qg.mt 26 7=true:=rfl;obtain⟨b,hb,hb2⟩:=bycC;have g5:Qd [[(5,O.cells [])]] 0 5=some (.cells []):=rfl;by_cases h0:n=0
    . subst h0;have hcs:cs=[]:=Zoz (by rw[hlen,Zq9]);subst hcs;have ap:Qr Tp (Qg.mt 26) 0 (Qd [[(5,O.cells [])]]) (some 7) 34 34 (.mS 0 5 0 0 (some 0) 12) (.iS [] 0 f)=some (.val (.mS 0 5 0 0 (some 0) 12) none):=
       Qbe Zu2 Qdq hb zc43 rfl Zu2 rfl (sc _)
      simp only[wX,↓Qc,simprocAttr,Tryz.ntmps26,Jj Zu2,mt5,Qv,ap,Zu2];refine W.done (End.ret (v:= .mS 0 5 0 0 (some 0) 12) rfl (.inr ⟨f,5,some 0,rfl,rfl,?_⟩));rw[Zj rfl];rfl
    . have n7:Qd [[(5,O.cells [])]] 0 7=none:=rfl;have ap:Qr Tp (Qg.mt 26) 0 (Qd [[(5,O.cells [])]]) (some 7) 34 34 (.mS 0 5 0 0 (some 0) 12) (.iS cs n f)=some (.val (.mS 0 7 0 n none 12) (some (0,7,.cells cs))):=by
       obtain⟨m,rfl⟩:∃m,n=m+1:=⟨n-1,by omega⟩;have r1:J4 (0+(m+1)) b=true:=Zw (Zn7 (Zra (by omega:0+(m+1)<=65536) hb2) (by decide)) (by omega);have zl:zeroCells Tp 43=some _:=zc43;have gm:=Qav (mt:=Qg.mt 26) (g:=Qd [[(5,O.cells [])]]) (fr:=0) (d:=7) (cs:=cs) (m:=m+1) (n:=12) (chk:=cs) mt7 hsc n7;simp only[Qr,Zu2,Qdq,hb,zl,Ji,sc,appendTo,g5,r1];simpa using gm
      simp only[wX,↓Qc,simprocAttr,Tryz.ntmps26,Jj Zu2,mt5,Qv,ap,Zu2];refine W.done (End.ret (v:= .mS 0 7 0 n none 12) rfl (.inr ⟨f,7,none,rfl,rfl,?_⟩));rw[Zj rfl];rfl
 obtain⟨r,K',h,h2⟩:=key;exact⟨r,K',h,h2⟩
theorem clC_op(v:V)(cs:List V)(n:Nat)(hv:Qw 12 v cs n)(hn:n<=65536)(hsc:cs.all V.scalar=true)(hp:Qu cs=true){fn fr d:Nat}{H:Heap}(ha:Qg.pure fn 26=false)(hd:Qd H fr d=none)(hz:Qg.lift fn 26=true:=by rfl):
 ∃w o,callOp Qg (Qn Tp Qg) fn fr (some d) 26 [v] H=some (.ret w,hset H fr d o)/\Bj fr d 12 n cs w o/\((v= .nS/\n=0/\cs=[]/\w= .nS/\o= .dead)\/∃f cap,v= .iS cs n f/\w= .mS fr d 0 n cap 12/\o= .cells cs):=
 Qoh hp rfl (Zdn v cs n hv hn hsc) (Qa (hv.frz 11) rfl) ha hz hd
theorem bybR:(match byt Tp 26 with|some b=>decide (b<=128)|none=>false)=true:=by kernel_rfl
theorem bycR:∃b,byt Tp 26=some b/\b<=128:=by
 have h:=bybR;cases hb:byt Tp 26 with
 |none=>rw[hb] at h;cases h
 |some b=>rw[hb] at h;exact⟨b,rfl,of_decide_eq_true h⟩
theorem Zbx(v:V)(cs:List V)(n:Nat)(hv:Qw 1 v cs n)(hn:n<=65536)(hsc:cs.all V.scalar=true):
 ∃r K',Qn Tp Qg (some 61) [v] []=some (r,K')/\((v= .nS/\n=0/\cs=[]/\r= .ret .nS)\/∃f s cap,v= .iS cs n f/\r= .ret (.mS 0 s 0 n cap 1)/\Qd K' 0 s=some (.cells cs)):=by
 have key:CW Tp Qg 61 [v] [] fun r K' =>((v= .nS/\n=0/\cs=[]/\r= .ret .nS)\/∃f s cap,v= .iS cs n f/\r= .ret (.mS 0 s 0 n cap 1)/\Qd K' 0 s=some (.cells cs)):=by
  refine Zu Tryz.func61 rfl ?_;obtain⟨hlen,⟨rfl,h0⟩|⟨f,rfl⟩⟩:=id hv
  . have e:∀p q,Zq Tp .eql 22 p q .nS .nS=some (.bool true):=fun p q=>rfl;simp only[wX,↓Qc,simprocAttr,Tryz.ntmps61,e];exact W.done (End.ret (v:= .nS) rfl (.inl (by
     have hcs:cs=[]:=Zoz (by rw[hlen,h0,Zq9])
     first|exact⟨rfl,h0,hcs,rfl⟩|exact⟨h0,hcs,rfl⟩)))
  . have sc:∀g,Qk g 1 (.iS cs n f)=some (cs,n):=fun g=>Qw.sc hv;have mt5:Qg.mt 61 5=true:=rfl;have mt7:Qg.mt 61 7=true:=rfl;obtain⟨b,hb,hb2⟩:=bycR;have g5:Qd [[(5,O.cells [])]] 0 5=some (.cells []):=rfl;by_cases h0:n=0
    . subst h0;have hcs:cs=[]:=Zoz (by rw[hlen,Zq9]);subst hcs;have ap:Qr Tp (Qg.mt 61) 0 (Qd [[(5,O.cells [])]]) (some 7) 22 22 (.mS 0 5 0 0 (some 0) 1) (.iS [] 0 f)=some (.val (.mS 0 5 0 0 (some 0) 1) none):=
       Qbe Zu1 Qau hb Qmr rfl Zu1 rfl (sc _)
      simp only[wX,↓Qc,simprocAttr,Tryz.ntmps61,Jj Zu1,mt5,Qv,ap,Zu1];refine W.done (End.ret (v:= .mS 0 5 0 0 (some 0) 1) rfl (.inr ⟨f,5,some 0,rfl,rfl,?_⟩));rw[Zj rfl];rfl
    . have n7:Qd [[(5,O.cells [])]] 0 7=none:=rfl;have ap:Qr Tp (Qg.mt 61) 0 (Qd [[(5,O.cells [])]]) (some 7) 22 22 (.mS 0 5 0 0 (some 0) 1) (.iS cs n f)=some (.val (.mS 0 7 0 n none 1) (some (0,7,.cells cs))):=by
       obtain⟨m,rfl⟩:∃m,n=m+1:=⟨n-1,by omega⟩;have r1:J4 (0+(m+1)) b=true:=Zw (Zn7 (Zra (by omega:0+(m+1)<=65536) hb2) (by decide)) (by omega);have zl:zeroCells Tp 26=some _:=Qmr;have gm:=Qav (mt:=Qg.mt 61) (g:=Qd [[(5,O.cells [])]]) (fr:=0) (d:=7) (cs:=cs) (m:=m+1) (n:=1) (chk:=cs) mt7 hsc n7;simp only[Qr,Zu1,Qau,hb,zl,Ji,sc,appendTo,g5,r1];simpa using gm
      simp only[wX,↓Qc,simprocAttr,Tryz.ntmps61,Jj Zu1,mt5,Qv,ap,Zu1];refine W.done (End.ret (v:= .mS 0 7 0 n none 1) rfl (.inr ⟨f,7,none,rfl,rfl,?_⟩));rw[Zj rfl];rfl
 obtain⟨r,K',h,h2⟩:=key;exact⟨r,K',h,h2⟩
theorem Q7w(v:V)(cs:List V)(n:Nat)(hv:Qw 1 v cs n)(hn:n<=65536)(hsc:cs.all V.scalar=true)(hp:Qu cs=true){fn fr d:Nat}{H:Heap}(ha:Qg.pure fn 61=false)(hd:Qd H fr d=none):
 ∃w o,callOp Qg (Qn Tp Qg) fn fr (some d) 61 [v] H=some (.ret w,hset H fr d o)/\Bj fr d 1 n cs w o/\((v= .nS/\n=0/\cs=[]/\w= .nS/\o= .dead)\/∃f cap,v= .iS cs n f/\w= .mS fr d 0 n cap 1/\o= .cells cs):=
 Qoh hp rfl (Zbx v cs n hv hn hsc) (Qa (hv.frz 11) rfl) ha rfl hd
end Go.Proofs.YtjllfbejpjonnaaGreatDoor
namespace Go.Proofs.YtjllfbejpjonnaaGreatDoor
open Go.AM Go.AM.BM
attribute [local irreducible] U W
theorem Q2c(v:V)(l:List UInt8)(hv:Qe v l)(hl:l.length<=1048576):CW Tp Qg 69 [v] [] fun r _=>r= .ret (.int .u32 (Kk l).a):=by
 refine Zu Tryz.func69 rfl ?_;obtain⟨m,rfl,hm⟩:=(Q28 v l hv hl).op (by rfl) (Qa (hv.frz _) rfl);have hm' :∀s H,_:=fun s H=>hm 69 0 s H rfl;have ix:Xs Tp 176 (.agg (wc (Kk l))) (.int .i64 0)=some (.int .u32 (Kk l).a):=by simp only[Xs,Zu14,Quu];rfl
 generalize Kk l=z at*;simp only[wX,↓Qc,simprocAttr,Tryz.ntmps69,hm',ix];exact W.done (End.ret (v:= .int .u32 z.a) rfl rfl)
noncomputable def Qnw:List UInt8->Nat->W4->W4
 |_,0,x=>x
 |L,m+1,x=>Qnw (L.drop 8) m (Qiw x (L.take 8))
theorem Qqc:∀(j:Nat) (L:List UInt8) (x:W4),Qnw L (j+1) x=Qiw (Qnw L j x) ((L.drop (8*j)).take 8)
 |0,L,x=>rfl
 |j+1,L,x=>by
  have:=Qqc j (L.drop 8) (Qiw x (L.take 8));rw[Qnw,this,Zol,show 8+8*j=8*(j+1) by omega];rfl
theorem Q22:∀(j:Nat) (L:List UInt8),Qfb L j=Qnw L j ⟨1,2,3,4⟩
 |0,L=>rfl
 |j+1,L=>by rw[Qqc,Qfb,Q22 j L]
theorem Qt4:∀(m n:Nat) (L:List UInt8) (x:W4),L.length=8*m->m<=n->Qlg n (Qb L) x=Qnw L m x
 |0,n,L,x,h,_=>by
  have:L=[]:=Zoz h;subst this;cases n<;>rfl
 |m+1,n,L,x,h,hn=>by
  obtain⟨n,rfl⟩:∃k,n=k+1:=⟨n-1,by omega⟩
  match L,h with
  |a::b::c::d::e::f::g::i::r,h=>
   have ih:=Qt4 m n r (Qiw x [a,b,c,d,e,f,g,i]) (by simp only[Zp9] at h;omega) (by omega);have e1:Qnw (a::b::c::d::e::f::g::i::r) (m+1) x=Qnw r m (Qiw x [a,b,c,d,e,f,g,i]):=rfl;have e2:Qlg (n+1) (Qb (a::b::c::d::e::f::g::i::r)) x=Qi3 (Nat.xor x.a (Yp [a,b,c,d])) fun p=>Qi3 (Nat.xor x.c (Yp [e,f,g,i])) fun q=>Qlg n (Qb r) (Bg (nat_lit 4) ⟨p,x.b,q,x.d⟩):=rfl;rw[e1,<-ih,e2,Qpf,Qpf];rfl
  |[],h=>simp at h
  |[_],h=>simp at h;omega
  |[_,_],h=>simp at h;omega
  |[_,_,_],h=>simp at h;omega
  |[_,_,_,_],h=>simp at h;omega
  |[_,_,_,_,_],h=>simp at h;omega
  |[_,_,_,_,_,_],h=>simp at h;omega
  |[_,_,_,_,_,_,_],h=>simp at h;omega
theorem Q2y(l:List UInt8):Qx4 (Qb l)=Kk l:=by
 have hp:pad8 (Qb l)=Qb (Qbj l (Xf l.length)):=by simp[pad8,Qbj,Xf,Qb]
 have m8:l.length+1+Xf l.length=8*((l.length+1+Xf l.length)/8):=by unfold Xf;omega
 have pn:Xf l.length<8:=Nat.mod_lt _ (by decide);have h:=Qt4 ((l.length+1+Xf l.length)/8) (l.length+1) (Qbj l (Xf l.length)) ⟨1,2,3,4⟩ (by rw[Qeb];exact m8) (by omega);have e:Qx4 (Qb l)=(match Qlg ((Qb l).length+1) (pad8 (Qb l)) ⟨1,2,3,4⟩ with
  |x=>Bg 8 ⟨x.a,Nat.xor x.b (Qb l).length,x.c,x.d⟩):=rfl
 rw[e,hp,Qy,h,<-Q22];rfl
theorem Ze0(ys:List V)(v:V)(h:kSum ys=some v):FzN Tp Qg 69 ys v:=by
 unfold kSum at h;split at h
 case h_2=>cases h
 rename_i x;split at h
 case h_2=>cases h
 rename_i c hc;cases h;obtain⟨l,rfl,hb,hl⟩:=Ql6 hc;obtain⟨r,H,e1,rfl⟩:=Q2c x l hb hl;rw[Q2y];exact⟨_,_,e1,rfl⟩
end Go.Proofs.YtjllfbejpjonnaaGreatDoor
namespace Go.Proofs.YtjllfbejpjonnaaGreatDoor
open Go.AM
attribute [local irreducible] U W
structure Xn(bv wv sv:V)(bl:List (List UInt8))(wl:List (Int×List UInt8))(sp:List UInt8):Prop where
 blocks:Z2 bv bl
 waits:Jh wv wl
 space:Qe sv sp
 b1:bl.length<=Y4
 w1:wl.length<=Y4
 w0:∀w∈wl,-9223372036854775808<=w.1/\w.1<=9223372036854775807
abbrev Yu(bv wv sv:V)(e c:Int):V:= .agg [bv,wv,sv,.int .u32 e,.int .u32 c]
theorem Qbl{bv wv sv:V}{bl wl sp}(h:Xn bv wv sv bl wl sp)(e c:Int)(g:Get):frz g depth (Yu bv wv sv e c)=some (Yu bv wv sv e c):=by obtain⟨bcs,hbc,hbv⟩:=h.blocks;obtain⟨wcs,hwc,hwv⟩:=h.waits;show Option.map V.agg (Q5 (AM.frz _ 11) [bv,wv,sv,.int .u32 e,.int .u32 c])=_;rw[Qa (hbv.frz 10) (Qa (hwv.frz 10) (Qa (h.space.frz 10) (Qa rfl (Qa rfl rfl))))];rfl
theorem Qxr{bv wv sv:V}{bl wl sp}(h:Xn bv wv sv bl wl sp)(e c:Int):
 Fz Tp Qg 46 [Yu bv wv sv e c] fun x=>x= .int .i64 (okE (Bi (okE (Jn bl wl)) (Yx sp) e c)):=by
 obtain⟨bcs,hbc,hbv⟩:=h.blocks;obtain⟨wcs,hwc,hwv⟩:=h.waits;exact Qi2 bv wv sv _ (Qd5 bv wv bl wl h.blocks h.waits h.b1 h.w1) (Ks h.blocks h.waits _) (Q4 hbv) (Q4 hwv) sp h.space e c
theorem Q91(v:V)(l:List UInt8)(hv:Qe v l)(hl:l.length<=1048576):Fz Tp Qg 69 [v] fun x=>x= .int .u32 (Kk l).a:=by refine Fz.of_cw ((Q2c v l hv hl).mono ?_);rintro r H rfl;exact⟨_,rfl,_,rfl,rfl⟩
end Go.Proofs.YtjllfbejpjonnaaGreatDoor
namespace Go.Proofs.YtjllfbejpjonnaaGreatDoor
open Go.AM
attribute [local irreducible] U W
theorem Qh7(fl:Bool):∀l:List (List UInt8),(∀r∈l,r.length=256)->Kw (l.map fun r=>V.iS (Qb r) 256 fl) l
 |[],_=>rfl
 |x::l,h=>⟨.iS (Qb x) 256 fl,_,rfl,by rw[<-h x (by simp)];exact Qe.mk x fl,Qh7 fl l fun r hr=>h r (by simp[hr])⟩
theorem Q68{α β:Type}(g:α->β)(d:α):∀l:List α,(List.range l.length).map (fun j=>g (l.getD j d))=l.map g:=by
 intro l;apply Zpi;intro i;by_cases hi:i<l.length
 . simp only[Zqv,List.getElem?_range hi,Zn2,Zq7,Zn1 hi,Zpb]
 . rw[Zn4 (by simp;omega),Zn4 (by simp;omega)]
theorem Qfs:∀{l:List (Int×List UInt8)} {cs:List V} {w:Int×List UInt8} {v:V},Qcl cs l->Qe v w.2->Qcl (cs++[.int .i64 w.1,v]) (l++[w])
 |[],cs,w,v,h,hv=>by
  have:cs=[]:=h;subst this;exact⟨v,[],rfl,hv,rfl⟩
 |x::l,cs,w,v,⟨u,d,e,h1,h2⟩,hv=>by
  subst e;exact⟨u,d++[.int .i64 w.1,v],rfl,h1,Qfs h2 hv⟩
theorem Qi0(wl:List (Int×List UInt8))(a:Nat->Int)(d:Nat->List V)(h:∀j,(h:j<wl.length)->a j=wl[j].1/\d j=Qb wl[j].2/\wl[j].2.length=256):∀n,n<=wl.length->Qcl (Qa7 a d n) (wl.take n)
 |0,_=>rfl
 |n+1,hn=>by
  obtain⟨h1,h2,h3⟩:=h n (by omega);rw[Qb4,Zqm (by omega),h1,h2];exact Qfs (Qi0 wl a d h n (by omega)) (by rw[<-h3];exact Qe.mk _ false)
structure Q6i(bv wv:V)(bl:List (List UInt8))(wl:List (Int×List UInt8))(bcs wcs:List V)(fl:Bool)(a:Nat->Int)(d:Nat->List V):Prop where
 ebv:bv= .iS bcs 256 fl
 nbl:bl.length=256
 nbc:bcs.length=256
 nwl:wl.length<=4096
 len:∀r∈bl,r.length=256
 hr:∀i,i<256->∃f,bcs[i]?=some (.iS (Qb (bl.getD i [])) 256 f)
 row:∀i,i<256->Jv (Qb (bl.getD i []))
 hv:Qw 2 wv wcs wl.length
 wait:∀j,j<wl.length->wcs[2*j]?=some (.int .i64 (a j))/\∃fl,wcs[2*j+1]?=some (.iS (d j) 256 fl)
 data:∀j,j<wl.length->Jv (d j)
 ad:∀j,(h:j<wl.length)->a j=wl[j].1/\d j=Qb wl[j].2/\wl[j].2.length=256
theorem Q07{bv wv:V}{bl:List (List UInt8)}{wl:List (Int×List UInt8)}(hb:Z2 bv bl)(hw:Jh wv wl)(ok:Jn bl wl=true):∃bcs wcs fl a d,Q6i bv wv bl wl bcs wcs fl a d:=by
 simp only[Jn,Zok,Zor,beq_iff_eq,decide_eq_true_eq] at ok;obtain⟨⟨⟨k1,k2⟩,k3⟩,k4⟩:=ok;obtain⟨bcs,hbc,hbv⟩:=hb;obtain⟨wcs,hwc,hwv⟩:=hw;have hbl:=hbc.len;obtain⟨_,⟨rfl,h0⟩|⟨fl,rfl⟩⟩:=hbv
 . omega
 have k1' :bl.length=256:=by omega
 have hr3:∀b∈bl,b.length=256:=fun b h=>by have:=k3 b h;simp only[Xy,beq_iff_eq] at this;omega
 have gd:∀i,i<256->(bl.getD i []).length=256:=fun i hi=>by rw[Zq7,Zn1 (by omega)];exact hr3 _ (Zp8 _)
 have wd:∀j,(h:j<wl.length)->wl[j].2.length=256:=fun j h=>by have h1:=k4 _ (Zp8 h);simp only[Qdd,Xy,Zok,beq_iff_eq] at h1;omega
 have ad:∀j,(h:j<wl.length)->(wl.getD j (0,[])).1=wl[j].1/\Qb (wl.getD j (0,[])).2=Qb wl[j].2/\wl[j].2.length=256:=fun j h=>by simp only[Zq7,Zn1 h,Zpb,true_and];exact wd j h
 refine⟨bcs,wcs,fl,fun j=>(wl.getD j (0,[])).1,fun j=>Qb (wl.getD j (0,[])).2,⟨by rw[k1'],k1',by omega,by omega,hr3,fun i hi=>?_,fun i hi=>Qe2 (gd i hi),hwv,fun j hj=>?_,fun j hj=>?_,ad⟩⟩
 . obtain⟨v,h1,h2⟩:=hbc.at_ (i:=i) (by omega);obtain⟨f,rfl⟩:=Qcu h2 (hr3 _ (Zp8 _));refine⟨f,?_⟩;rw[h1,Zq7,Zn1 (by omega)];rfl
 . obtain⟨e1,v,e2,h2⟩:=hwc.at_ hj;obtain⟨f,rfl⟩:=Qcu h2 (wd j hj);obtain⟨q1,q2,_⟩:=ad j hj;exact⟨by rw[e1,q1],f,by rw[e2,q2]⟩
 . obtain⟨_,q2,q3⟩:=ad j hj;show Jv (Qb (wl.getD j (0,[])).2);rw[q2];exact Qe2 q3
theorem Qyp{bv wv:V}{bl:List (List UInt8)}{wl:List (Int×List UInt8)}(hb:Z2 bv bl)(hw:Jh wv wl)(ok:Jn bl wl=true):
 Fz Tp Qg 72 [.agg [bv,wv]] fun x=>∃bv' wv',x= .agg [bv',wv']/\Z2 bv' bl/\Jh wv' wl:=by
 obtain⟨bcs,wcs,fl,a,d,p⟩:=Q07 hb hw ok;rw[p.ebv];refine(Q2z bcs fl _ p.nbc p.hr p.row wv wcs wl.length p.hv p.nwl a d p.wait p.data).mono ?_;rintro x rfl;have e1:((List.range 256).map fun j=>V.iS (Qb (bl.getD j [])) 256 true)=bl.map fun r=> .iS (Qb r) 256 true:=by have:=Q68 (fun r=>V.iS (Qb r) 256 true) [] bl;rw[p.nbl] at this;exact this
 have hwc:=Qi0 wl a d p.ad wl.length (Zn6 _);rw[Zqg] at hwc;refine⟨_,_,rfl,⟨_,Qh7 true bl p.len,?_⟩,⟨Qa7 a d wl.length,hwc,?_⟩⟩
 . rw[e1];refine⟨by simp,.inr ⟨false,by rw[p.nbl]⟩⟩
 . by_cases h:wl.length=0
   . rw[if_pos h];exact⟨by rw[hwc.len],.inl ⟨rfl,h⟩⟩
   . rw[if_neg h];exact⟨by rw[hwc.len],.inr ⟨false,rfl⟩⟩
theorem Qij(v:V)(l:List UInt8)(hv:Qe v l)(hl:l.length<=1000000):Fz Tp Qg 45 [v] fun r=>Qe r l:=by
 refine Zm Tryz.func45 rfl ?_;obtain⟨hlen,⟨rfl,h0⟩|⟨f,rfl⟩⟩:=id hv
 . have h0:l=[]:=Zoz h0;subst h0;have e:∀p q,Zq Tp .eql 26 p q .nS .nS=some (.bool true):=fun p q=>rfl;simp only[wX,↓Qc,simprocAttr,Zu12,e];exact W.done (Q0.ret rfl rfl Qe.nil)
 . have sc:∀g,Qk g 1 (.iS (Qb l) l.length f)=some (Qb l,l.length):=fun g=>Qw.sc hv;have mt5:Qg.mt 45 5=true:=rfl;have mt7:Qg.mt 45 7=true:=rfl;have g5:Qd [[(5,O.cells [])]] 0 5=some (.cells []):=rfl;by_cases h0:l=[]
   . subst h0;have ap:Qr Tp (Qg.mt 45) 0 (Qd [[(5,O.cells [])]]) (some 7) 26 26 (.mS 0 5 0 0 (some 0) 1) (.iS (Qb []) 0 f)=some (.val (.mS 0 5 0 0 (some 0) 1) none):=
      Qbe Zu0 sz5 by8 zc5 rfl Zu0 rfl (sc _)
     simp only[wX,↓Qc,simprocAttr,Zu12,Jj Zu0,mt5,Qv,ap,Zu0,Zpt];exact W.done (Q0.ret (v:= .mS 0 5 0 0 (some 0) 1) (v' := .iS [] 0 true) rfl rfl (Qw.mk (cells:=[]) rfl))
   . have n7:Qd [[(5,O.cells [])]] 0 7=none:=rfl;have ap:Qr Tp (Qg.mt 45) 0 (Qd [[(5,O.cells [])]]) (some 7) 26 26 (.mS 0 5 0 0 (some 0) 1) (.iS (Qb l) l.length f)=some (.val (.mS 0 7 0 l.length none 1) (some (0,7,.cells (Qb l)))):=by
      have hp:0<l.length:=List.length_pos_iff.2 h0;have zl:zeroCells Tp 5=some _:=zc5;have gm:=Qav (mt:=Qg.mt 45) (g:=Qd [[(5,O.cells [])]]) (fr:=0) (d:=7) (cs:=Qb l) (m:=l.length) (n:=1) (chk:=Qb l) mt7 (Z8 l) n7;generalize Qb l=cs at*;generalize l.length=n at*;obtain⟨m,rfl⟩:∃m,n=m+1:=⟨n-1,by omega⟩;have r1:J4 (m+1) 1=true:=Zw (by omega) (by omega);simp only[Qr,Zu0,sz5,by8,zl,Ji,sc,appendTo,g5];simpa [r1] using gm
     simp only[wX,↓Qc,simprocAttr,Zu12,Jj Zu0,mt5,Qv,ap,Zu0];refine W.done (Q0.ret (v:= .mS 0 7 0 l.length none 1) (v' := .iS (Qb l) l.length false) rfl ?_ (Qe.mk l false));have e:((Qb l).drop 0).take (l.length*1)=Qb l:=by rw[Zpe,Zpf (by rw[Qy];omega)]
     have hf:=Qbt (g:=Qd [[(5,O.cells []),(7,O.cells (Qb l))]]) (f:=0) (s:=7) (o:=0) (len:=l.length) (esz:=1) (cap:=none) (xs:=Qb l) (m:=10) rfl (by rw[Qy];omega) (by rw[e];exact Qdk _ _ (Qfm l));rw[e] at hf;exact hf
theorem Qwh{bv wv sv:V}{bl wl sp}(h:Xn bv wv sv bl wl sp)(ok:Jn bl wl=true)(hs:sp.length<=1000000)(e c:Int):
 Fz Tp Qg 57 [Yu bv wv sv e c] fun r=>∃bv' wv' sv',r=Yu bv' wv' sv' e c/\Z2 bv' bl/\Jh wv' wl/\Qe sv' sp:=by
 refine Zm Tryz.func57 rfl ?_;obtain⟨m,⟨bv',wv',rfl,hb,hw⟩,hm⟩:=(Qyp h.blocks h.waits ok).op (by rfl) (Qa (Ks h.blocks h.waits _) rfl);have hm1:∀s H,_:=fun s H=>hm 57 0 s H rfl;obtain⟨sv',hsv,hm⟩:=(Qij sv sp h.space hs).op (by rfl) (Qa (h.space.frz _) rfl);have hm2:∀s H,_:=fun s H=>hm 57 0 s H rfl;obtain⟨_,_,h1⟩:=id h.blocks;obtain⟨_,_,h2⟩:=id h.waits;obtain⟨_,_,h3⟩:=id hb;obtain⟨_,_,h4⟩:=id hw;have t1:=Q4 h1;have t2:=Q4 h2;have t3:=Q4 h.space;have t4:=Q4 h3;have t5:=Q4 h4;have t6:=Q4 hsv;have t7:=Q7 hsv;have t8:=Q7 h3;have t9:=Q7 h4;simp only[wX,↓Qc,simprocAttr,Tryz.ntmps57,hm1,hm2,t1,t2,t3,t4,t5,t6,t7,t8,t9];refine W.opsT (by kernel_rfl) ?_;simp only[wX,↓Qc,simprocAttr,t1,t2,t3,t4,t5,t6,t7,t8,t9];refine W.done (Q0.ret (v:=Yu bv' wv' sv' e c) ?_ ?_ ⟨_,_,_,rfl,hb,hw,hsv⟩)
 . exact Qif rfl rfl rfl (by rw[rd29];rfl)
 . exact Qbl (Xn.mk hb hw hsv h.b1 h.w1 h.w0) e c _
end Go.Proofs.YtjllfbejpjonnaaGreatDoor
namespace Go.Proofs.YtjllfbejpjonnaaGreatDoor
open Go.AM
attribute [local irreducible] U W
theorem Qb1(x y:Operand)(a b:Bool):Zq Tp .neq 4 x y (.bool a) (.bool b)=some (.bool (a !=b)):=by
 have hg:(Tp).eqGuardType (Tp).depth 4=false:=by kernel_rfl
 simp only[Zq,Qis,Tryz.underlying4,hg,eqV,Zn5,if_false];cases a<;>cases b<;>rfl
set_option maxHeartbeats 16000000 in
theorem Zar{bv wv sv mv lv kv ov cv:V}{d:Int}{space:List UInt8}{p:Kx}(hp:Q9u bv wv sv mv lv kv ov cv d space p):Fz Tp Qg 19 [.agg (Qf bv wv sv mv lv kv ov cv p)] fun x=>x= .int .i64 (okE (Qah d (Yx space) (Qev space) p)):=by
 refine Zm Tryz.func19 rfl ?_;obtain⟨hdev,hfrz,hfr0,hnr,sb,sw,hspace,hown,⟨lcs,hlc,hlv⟩,hkeys,hload,⟨ccs,hcc,hcv⟩,f1,f2,f3,f4,f5,f6,f7⟩:=hp;have ss:=Q4 hspace;have sm:=Q4 hown;have sl:=Q4 hlv;obtain⟨kcs,hkc,hkv⟩:=hkeys;have sk:=Q4 hkv;obtain⟨ocs,hoc,hov⟩:=hload;have so:=Q4 hov;have sc:=Q4 hcv;obtain⟨epoch,count,gen,root,own,lines,keys,loaded,changes,logged,nid,ng⟩:=p;simp only at*;obtain⟨m,rfl,hm⟩:=(Qi2 bv wv sv d hdev hfrz sb sw space hspace epoch count).op (by rfl) (by
  refine Qa ?_ rfl;have e:Q5 (frz (fun _ _=>none) 11) [bv,wv,sv,.int .u32 epoch,.int .u32 count]=some [bv,wv,sv,.int .u32 epoch,.int .u32 count]:=
   Qa (hfr0 _ 1).1 (Qa (hfr0 _ 1).2 (Qa (Qw.frz hspace _) rfl))
  show Option.map V.agg (Q5 (frz _ 11) _)=_
  rw[e];rfl)
 have hm1:∀s H,_:=fun s H=>hm 19 0 s H rfl;obtain⟨m,rfl,hm⟩:=(Qce root).op (by rfl) rfl;have hm2:∀s H,_:=fun s H=>hm 19 0 s H rfl;have hq:=fun x y=>Qgf (x:=x) (y:=y) root Bf;have len:=hown.len Zu4;have hD:∀r,okE (Qah d (Yx space) (Qev space) ⟨epoch,count,gen,r,own,lines,keys,loaded,changes,logged,nid,ng⟩)=okE (if Qko d (Yx space) ⟨epoch,count,gen,r,own,lines,keys,loaded,changes,logged,nid,ng⟩ then false else if Qdx (Qev space) none own then(if Qgx ⟨epoch,count,gen,r,own,lines,keys,loaded,changes,logged,nid,ng⟩ then false else if Qgc lines none changes then !(lines.any (Yr nid ng)) else false) else false):=fun r=>rfl;rw[hD];have hH:∀r,Qko d (Yx space) ⟨epoch,count,gen,r,own,lines,keys,loaded,changes,logged,nid,ng⟩=((!(Bi d (Yx space) epoch count))||(decide (gen>16777215)||(!(Qe5 r)||(decide (r=Bf) !=(gen==0))))):=fun r=>rfl;rw[hH];generalize hMB:Qgx _=mb;have hMB' :mb=((!(X7 lines))||((!(Qbh keys 24))||((!(Qbh loaded 16))||(decide (logged<0)||(decide (logged>8)||(decide (nid<1)||decide (nid>256))))))):=hMB.symm;clear hMB hD hH;generalize Qe5 root=po at*;generalize decide (root=Bf)=pz at*;generalize hst:Bi d (Yx space) epoch count=st at*;obtain⟨ra,rb,rc,rd,re⟩:=root;simp only[Yb.cells,Bf] at hm2 hq;generalize hnb:(if Qdx (Qev space) none own=true then if mb=true then false else if Qgc lines none changes=true then !lines.any (Yr nid ng) else false else false)=nb;simp only[wX,↓Qc,simprocAttr,Tryz.ntmps19,Qf,sb,sw,ss,sm,sl,sk,so,sc,hm1,hm2,hq,Xo,Qb1]
 repeat' ((first|refine W.guardF ?_ ?_|refine W.guardT ?_ ?_|refine W.guardXF ?_ ?_|refine W.guardXT ?_ ?_|refine W.ite ?_ ?_|refine W.opsK1 (by kernel_rfl) ?_)<;>intro h<;>simp only[wX,↓Qc,simprocAttr,h,sb,sw,ss,sm,sl,sk,so,sc,hm1,hm2,hq,Xo,Qb1,len])
 all_goals first
  |(refine W.done (Q0.ret rfl rfl ?_)
    simp only[*,Yf,if_true,if_false]
    rfl)
  |skip
 have eQ:okE (if(false||(false||(false||false)))=true then false else nb)=okE nb:=rfl;rw[eQ];have hst2:Bi d (Yx space) epoch count=true:=by rw[hst];simpa using ‹(!st)=false›
 have hsp:space.length=256:=by simp only[Bi,Zoy,Zox,Zqp,Yx,Zok,beq_iff_eq] at hst2;exact hst2.2.1.1.1
 have pcD:∃pc,pc=[bv,wv,sv,V.int .u32 epoch,V.int .u32 count,V.int .u32 gen,V.int .i64 ra,V.int .u32 rb,V.int .u32 rc,V.int .u32 rd,V.int .u32 re,mv,lv,kv,ov,cv,V.int .i64 logged,V.int .i64 nid,V.int .u32 ng]:=⟨_,rfl⟩;obtain⟨pc,hpc⟩:=pcD;rw[<-hpc];have g2:pc[2]?=some sv:=by rw[hpc];rfl
 have g11:pc[11]?=some mv:=by rw[hpc];rfl
 have g12:pc[12]?=some lv:=by rw[hpc];rfl
 have g13:pc[13]?=some kv:=by rw[hpc];rfl
 have g14:pc[14]?=some ov:=by rw[hpc];rfl
 have g15:pc[15]?=some cv:=by rw[hpc];rfl
 have g16:pc[16]?=some (.int .i64 logged):=by rw[hpc];rfl
 have g17:pc[17]?=some (.int .i64 nid):=by rw[hpc];rfl
 have g18:pc[18]?=some (.int .u32 ng):=by rw[hpc];rfl
 have gl:pc.length=19:=by rw[hpc];rfl
 have gr:∀q,Qi q pc=false:=fun q=>by rw[hpc];simp only[Qi,V.refs,(hnr q).1,(hnr q).2,hspace.noRefs q,hown.noRefs q,hlv.noRefs q,hkv.noRefs q,hov.noRefs q,hcv.noRefs q,Zqr,Zqs]
 clear hpc hm1 hm2 hq hst2;refine W.ul ?_;refine W.loopS (kt:=[1,34,35,36]) rfl (fun i:Nat=>Zbg (.ptr 0 1 0) mv (.int .i64 own.length) (.int .i64 i)) (fun _=>[[(1,.cells pc)]]) (fun i=>i<=own.length/\Qdx (Qev space) (before own i) (own.drop i)=Qdx (Qev space) none own) (fun i=>own.length-i) ?_ 0 ⟨by omega,rfl⟩ rfl rfl;rintro i ⟨hi,hR⟩;simp only[Zbg];by_cases h:i<own.length
 . have c1:decide ((i:Int)<own.length)=true:=Zrh (by omega);have at1:=hown.at (k:= .i64) Zu4 sz3 (by decide) (i:=(i:Int)) (by omega) (by omega);have w1:(IntKind.i64).wrap ((i:Int)+1)=((i+1:Nat):Int):=by rw[wrap_i64]<;>omega
   have q1:(Qz own)[(i:Int).toNat*1]?=some (.int .i64 own[i]):=by simp[h,Qz]
   have q1' :(Qz own)[(i:Int).toNat]?=some (.int .i64 own[i]):=by simp[h,Qz]
   have hS:Qdx (Qev space) (before own i) (own.drop i)=if decide (own[i]<12)||(decide (own[i]>=256)||((match before own i with|some q=>decide (own[i]<=q)|none=>false)||(Qev space own[i].toNat !=1))) then false else Qdx (Qev space) (before own (i+1)) (own.drop (i+1)):=by
    rw[Zqt h];have e:before own (i+1)=some own[i]:=by simp only[before,Zn1 h]
    rw[e];rfl
   rw[hR] at hS;generalize hp:own[i]=a at*;generalize hnx:Qdx (Qev space) (before own (i+1)) (own.drop (i+1))=nx at hS;have walkR:∀(X:List (Nat×Nat)),True:=fun _=>trivial;by_cases hA:decide (a<12)=true
   . simp only[wA,↓Qc,simprocAttr,c1,at1,q1,q1',hA,rd3,ta,wH]
     repeat' ((first|refine W.guardF ?_ ?_|refine W.guardT ?_ ?_|refine W.guardXF ?_ ?_|refine W.guardXT ?_ ?_|refine W.ite ?_ ?_|refine W.opsK1 (by kernel_rfl) ?_)<;>intro h<;>simp only[wA,↓Qc,simprocAttr,h,ta,wH])
     all_goals first
      |(refine W.done ?_
        simp only[wA,↓Qc,simprocAttr];refine W.done (Q0.ret rfl rfl ?_);rw[<-hnb,hS];simp only[*,Yf,if_true,if_false]
        try rfl)
      |(try simp only[wA,↓Qc,simprocAttr,w1,(rfl:(IntKind.i64).wrap 1=1)]
        refine W.done ⟨i+1,rfl,rfl,⟨by omega,?_⟩,by omega⟩;rw[hS,hnx];simp only[*,Yf,if_true,if_false]
        try rfl)
   have hA' :decide (a<12)=false:=by simpa using hA
   by_cases hB:decide (a>=256)=true
   . simp only[wA,↓Qc,simprocAttr,c1,at1,q1,q1',hA',hB,rd3,ta,wH]
     repeat' ((first|refine W.guardF ?_ ?_|refine W.guardT ?_ ?_|refine W.guardXF ?_ ?_|refine W.guardXT ?_ ?_|refine W.ite ?_ ?_|refine W.opsK1 (by kernel_rfl) ?_)<;>intro h<;>simp only[wA,↓Qc,simprocAttr,h,ta,wH])
     all_goals first
      |(refine W.done ?_
        simp only[wA,↓Qc,simprocAttr];refine W.done (Q0.ret rfl rfl ?_);rw[<-hnb,hS];simp only[*,Yf,if_true,if_false]
        try rfl)
      |(try simp only[wA,↓Qc,simprocAttr,w1,(rfl:(IntKind.i64).wrap 1=1)]
        refine W.done ⟨i+1,rfl,rfl,⟨by omega,?_⟩,by omega⟩;rw[hS,hnx];simp only[*,Yf,if_true,if_false]
        try rfl)
   have hB' :decide (a>=256)=false:=by simpa using hB
   have h1' :12<=a:=by have:=of_decide_eq_false hA';omega
   have h2' :a<256:=by have:=of_decide_eq_false hB';omega
   have hlt:a.toNat<space.length:=by omega
   have at3:=hspace.at (k:= .i64) Zu0 sz5 (by decide) (i:=a) (by omega) (by omega);have q3:(Qb space)[a.toNat*1]?=some (.int .u8 (Qev space a.toNat)):=by rw[Zof,Qeh,Zn1 hlt,Zn2];unfold Qev;rw[Zq7,Zn1 hlt];rfl
   have q3' :(Qb space)[a.toNat]?=some (.int .u8 (Qev space a.toNat)):=by rw[<-q3,Zof]
   generalize hsv:Qev space a.toNat=sa at*;cases i with
   |zero=>
    have c0:decide (((0:Nat):Int)>0)=false:=rfl;have hb0:before own 0=none:=rfl;simp only[hb0] at hS;simp only[Qmi,Qey,Qfg,Zv,Zk,Kf,nov,gd,rho,Q1,wr,Nat.reduceAdd,Nat.reduceSub,if_true,if_false,reduceIte,reduceCtorEq,Nat.reduceLT,Nat.reduceEqDiff,Nat.reduceMul,Nat.reduceLeDiff,Qgv,Int.reduceBEq,Int.reduceBNe,Int.reduceLT,Int.reduceLE,↓Qc,c1,at1,q1,q1',hA',hB',c0,at3,q3,q3',g2,g11,rd3,rd5,ta,wH]
    repeat' ((first|refine W.guardF ?_ ?_|refine W.guardT ?_ ?_|refine W.guardXF ?_ ?_|refine W.guardXT ?_ ?_|refine W.ite ?_ ?_|refine W.opsK1 (by kernel_rfl) ?_)<;>intro h<;>simp only[wA,↓Qc,simprocAttr,h,c0,at3,q3,q3',g2,g11,rd3,rd5,ta,wH])
    all_goals first
     |(refine W.done ?_
       simp only[wA,↓Qc,simprocAttr];refine W.done (Q0.ret rfl rfl ?_);rw[<-hnb,hS];simp only[*,Yf,if_true,if_false]
       try rfl)
     |(try simp only[wA,↓Qc,simprocAttr,w1,(rfl:(IntKind.i64).wrap 1=1)]
       refine W.done ⟨0+1,rfl,rfl,⟨by omega,?_⟩,by omega⟩;rw[hS,hnx];simp only[*,Yf,if_true,if_false]
       try rfl)
   |succ k=>
    have c0:decide (((k+1:Nat):Int)>0)=true:=Zrh (by omega);have wk:(IntKind.i64).wrap (((k+1:Nat):Int)-1)=((k:Nat):Int):=by rw[wrap_i64]<;>omega
    have hk:k<own.length:=by omega
    have at2:=hown.at (k:= .i64) Zu4 sz3 (by decide) (i:=(k:Int)) (by omega) (by omega);have q2:(Qz own)[(k:Int).toNat*1]?=some (.int .i64 own[k]):=by simp[hk,Qz]
    have q2' :(Qz own)[(k:Int).toNat]?=some (.int .i64 own[k]):=by simp[hk,Qz]
    have hb:before own (k+1)=some own[k]:=by simp only[before,Zn1 hk]
    simp only[hb] at hS;simp only[wA,↓Qc,simprocAttr,c1,at1,q1,q1',hA',hB',c0,wk,at2,q2,q2',at3,q3,q3',g2,g11,rd3,rd5,ta,wH]
    repeat' ((first|refine W.guardF ?_ ?_|refine W.guardT ?_ ?_|refine W.guardXF ?_ ?_|refine W.guardXT ?_ ?_|refine W.ite ?_ ?_|refine W.opsK1 (by kernel_rfl) ?_)<;>intro h<;>simp only[wA,↓Qc,simprocAttr,h,c0,wk,at2,q2,q2',at3,q3,q3',g2,g11,rd3,rd5,ta,wH])
    all_goals first
     |(refine W.done ?_
       simp only[wA,↓Qc,simprocAttr];refine W.done (Q0.ret rfl rfl ?_);rw[<-hnb,hS];simp only[*,Yf,if_true,if_false]
       try rfl)
     |(try simp only[wA,↓Qc,simprocAttr,w1,(rfl:(IntKind.i64).wrap 1=1)]
       refine W.done ⟨k+1+1,rfl,rfl,⟨by omega,?_⟩,by omega⟩;rw[hS,hnx];simp only[*,Yf,if_true,if_false]
       try rfl)
 . have c1:decide ((i:Int)<own.length)=false:=Zri (by omega);have hA:Qdx (Qev space) none own=true:=by
    rw[<-hR,Zqe (by omega)];cases hb:before own i<;>rfl
   rw[hA,if_pos rfl] at hnb;simp only[wA,↓Qc,simprocAttr,c1];refine W.done ?_;obtain⟨m,rfl,hm⟩:=(Qyj lv lines ⟨lcs,hlc,hlv⟩).op (by rfl) (Qa (hlv.frz _) rfl);have hm1:∀s H,_:=fun s H=>hm 19 0 s H rfl;obtain⟨m,rfl,hm⟩:=(Qql kv keys ⟨kcs,hkc,hkv⟩ f4 f6 24 (.inl rfl)).op (by rfl) (Qa (hkv.frz _) rfl);have hm2:∀s H,_:=fun s H=>hm 19 0 s H rfl;obtain⟨m,rfl,hm⟩:=(Qql ov loaded ⟨ocs,hoc,hov⟩ f5 f7 16 (.inr rfl)).op (by rfl) (Qa (hov.frz _) rfl);have hm3:∀s H,_:=fun s H=>hm 19 0 s H rfl;have hl16:X7 lines=true->lines.length<=1000000:=fun h=>by
    unfold X7 at h;by_cases hh:(lines.length:Int)>16
    . rw[if_pos (Zrh hh)] at h;cases h
    . omega
   generalize X7 lines=ml at*;generalize Qbh keys 24=mk at*;generalize Qbh loaded 16=mo at*;have len2:=hcv.len Zu2;have hcont:=Qv6 lv lines lcs hlc hlv f2;simp only[wA,↓Qc,simprocAttr,hm1,hm2,hm3,g12,g13,g14,g16,g17,rd3,Qsj,rd22,ta,wH]
   repeat' ((first|refine W.guardF ?_ ?_|refine W.guardT ?_ ?_|refine W.guardXF ?_ ?_|refine W.guardXT ?_ ?_|refine W.ite ?_ ?_|refine W.opsK1 (by kernel_rfl) ?_)<;>intro h<;>simp only[wA,↓Qc,simprocAttr,h,hm1,hm2,hm3,g12,g13,g14,g15,g16,g17,rd3,Qsj,rd22,Qzp,len2,ta,wH])
   all_goals first
    |(refine W.done (Q0.ret rfl rfl ?_)
      rw[<-hnb,hMB'];simp only[*,Yf,if_true,if_false]
      try rfl)
    |skip
   have hmb:mb=false:=by rw[hMB'];simp only[*,Zqr,Zpa]
   have hml:ml=true:=by first|assumption|(simp only[*])|simp_all
   rw[hmb,if_neg (by decide)] at hnb;clear hm1 hm2 hm3 hR hA hMB' len;refine W.ul ?_;refine W.loop (fun(i:Nat) t H=>∃F:AM.Frame,Jg [1,108,109,110] t 0=Quo (.ptr 0 1 0) cv (.int .i64 changes.length) (.int .i64 i)/\i<=changes.length/\H=[F]/\(F=[(1,.cells pc)]\/∃x,F=[(1,.cells pc),(6,.cells x)])/\Qgc lines (before changes i) (changes.drop i)=Qgc lines none changes) (fun i=>changes.length-i) ?_ 0 ⟨_,rfl,by omega,rfl,.inl rfl,rfl⟩ rfl;clear h hi c1;rintro i t H ⟨F,ht,hi,rfl,hF,hR⟩;have hd:([F]:Heap).modify 0 (Ju fun s=>[6].contains s)=[[(1,.cells pc)]]:=by rcases hF with rfl|⟨x,rfl⟩<;>rfl
   have vr:cv.refs (fun f s=>f==0&&[6].contains s)=false:=hcv.noRefs _;refine⟨_,_,Z7 (kt:=[1,108,109,110]) (ds:=[6]) rfl ?_ ?_,?_⟩
   . rw[ht];simp only[Quo,Qi,V.refs,vr];simp
   . rw[hd];simp only[Q2,Zg,O.refs,gr];simp
   rw[ht,hd];simp only[Quo];by_cases h:i<changes.length
   . have c1:decide ((i:Int)<changes.length)=true:=Zrh (by omega);have at1:=hcv.at (k:= .i64) Zu2 Qdq (by decide) (i:=(i:Int)) (by omega) (by omega);obtain⟨dv,hdv,ld⟩:=hcc.ld h;have sdv:dv.scalar=true:=by obtain⟨_,hq⟩:=hdv;exact Q4 hq
     have ld1:∀g,ldV Tp 43 g (.iptr ccs ((i:Int).toNat*12))=_:=ld;have w1:(IntKind.i64).wrap ((i:Int)+1)=((i+1:Nat):Int):=by rw[wrap_i64]<;>omega
     have hS:Qgc lines (before changes i) (changes.drop i)=if(match Xq lines changes[i].set with|none=>true|some l=>l.kind !=1)||(!(J8 changes[i])||(match before changes i with|some q=>decide (Qet q changes[i]>=0)|none=>false)) then false else Qgc lines (before changes (i+1)) (changes.drop (i+1)):=by
      rw[Zqt h];have e:before changes (i+1)=some changes[i]:=by simp only[before,Zn1 h]
      rw[e];rfl
     rw[hR] at hS;obtain⟨m,rfl,hm⟩:=(Qvq changes[i] dv hdv).op (by rfl) (Qa (Qgk hdv) rfl);have hmc:∀s H,_:=fun s H=>hm 19 0 s H rfl;obtain⟨m,rfl,hm⟩:=(Qul lv lines lcs hlc hlv (hl16 hml) changes[i].set).op (by rfl) (Qa (hlv.frz _) rfl);have hm1:∀s H,_:=fun s H=>hm 19 0 s H rfl;have hor:∀(q:Qp) (qv:V),Qnd qv q.n->∀s H,callOp Qg (Qn Tp Qg) 19 0 s 52 [.agg (Ql q qv),.agg (Ql changes[i] dv)] H=some (.ret (.int .i64 (Qet q changes[i])),H):=fun q qv hqv s H=>by obtain⟨m,rfl,hm⟩:=(Q8q q changes[i] qv dv hqv hdv).op (by rfl) (Qa (Qgk hqv) (Qa (Qgk hdv) rfl));exact hm 19 0 s H rfl
     generalize hnx:Qgc lines (before changes (i+1)) (changes.drop (i+1))=nx at hS;generalize hoi:Qet=oi at*;generalize J8 changes[i]=mc at*;generalize hp:changes[i]=c at*;simp only[Ql] at ld1 hmc;cases hO:Qc3 lines c.set with
     |none=>
      have hLf:Xq lines c.set=none:=by simp only[Xq,hO]
      simp only[hO] at hm1;simp only[hLf,Bool.true_or,if_true] at hS;simp only[wX,↓Qc,simprocAttr,c1,at1,ld1,hm1,hmc,Xo,Qbr,Bp,Qb1,g12,g15,rd3,rd5,Qsj,Qzp,sdv]
      repeat' ((first|refine W.guardF ?_ ?_|refine W.guardT ?_ ?_|refine W.guardXF ?_ ?_|refine W.guardXT ?_ ?_|refine W.ite ?_ ?_|refine W.opsK1 (by kernel_rfl) ?_)<;>intro h<;>simp only[wX,↓Qc,simprocAttr,h,c1,at1,ld1,hm1,hmc,Xo,Qbr,Bp,Qb1,g12,g15,rd3,rd5,Qsj,Qzp,sdv])
      all_goals first
       |(refine W.done ?_
         simp only[wA,↓Qc,simprocAttr];refine W.done (Q0.ret rfl rfl ?_);rw[<-hnb,hS];simp only[*,Yf,if_true,if_false]
         try rfl)
       |(try simp only[wA,↓Qc,simprocAttr,w1,(rfl:(IntKind.i64).wrap 1=1)]
         refine W.done ⟨_,⟨_,rfl,by omega,rfl,.inr ⟨_,rfl⟩,?_⟩,by omega⟩;rw[hS,hnx];simp only[*,Yf,if_true,if_false]
         try rfl)
     |some j=>
      have hj:=Ql3 hO;obtain⟨j1,j2,j3,j4⟩:=hlc.cells hj;have hLf:Xq lines c.set=some lines[j]:=by simp only[Xq,hO,Zn1 hj]
      simp only[hO] at hm1;simp only[hLf] at hS;generalize lines[j].kind=lk at*;cases i with
      |zero=>
       have c0:decide (((0:Nat):Int)>0)=false:=rfl;have hb0:before changes 0=none:=rfl;simp only[hb0] at hS;simp only[Qmi,Qey,Qfg,Zv,Zk,Kf,nov,gd,rho,Q1,wr,Nat.reduceAdd,Nat.reduceSub,if_true,if_false,reduceIte,reduceCtorEq,Nat.reduceLT,Nat.reduceEqDiff,Nat.reduceMul,Nat.reduceLeDiff,Qgv,Int.reduceBEq,Int.reduceBNe,Int.reduceLT,Int.reduceLE,↓Qc,c0,j2,c1,at1,ld1,hm1,hmc,Xo,Qbr,Bp,Qb1,g12,g15,rd3,rd5,Qsj,Qzp,sdv,ta,wH,wB]
       repeat' ((first|refine W.guardF ?_ ?_|refine W.guardT ?_ ?_|refine W.guardXF ?_ ?_|refine W.guardXT ?_ ?_|refine W.ite ?_ ?_|refine W.opsK1 (by kernel_rfl) ?_)<;>intro h<;>simp only[wX,↓Qc,simprocAttr,h,c0,j2,c1,at1,ld1,hm1,hmc,Xo,Qbr,Bp,Qb1,g12,g15,rd3,rd5,Qsj,Qzp,sdv])
       all_goals first
        |(refine W.done ?_
          simp only[wA,↓Qc,simprocAttr];refine W.done (Q0.ret rfl rfl ?_);rw[<-hnb,hS];simp only[*,Yf,if_true,if_false]
          try rfl)
        |(try simp only[wA,↓Qc,simprocAttr,w1,(rfl:(IntKind.i64).wrap 1=1)]
          refine W.done ⟨0+1,⟨_,rfl,by omega,rfl,.inr ⟨_,rfl⟩,?_⟩,by omega⟩;rw[hS,hnx];simp only[*,Yf,if_true,if_false]
          try rfl)
      |succ k=>
       have c0:decide (((k+1:Nat):Int)>0)=true:=Zrh (by omega);have wk:(IntKind.i64).wrap (((k+1:Nat):Int)-1)=((k:Nat):Int):=by rw[wrap_i64]<;>omega
       have hk:k<changes.length:=by omega
       have at2:=hcv.at (k:= .i64) Zu2 Qdq (by decide) (i:=(k:Int)) (by omega) (by omega);obtain⟨qv,hqv,ldq⟩:=hcc.ld hk;have ld2:∀g,ldV Tp 43 g (.iptr ccs ((k:Int).toNat*12))=_:=ldq;have hmo:=hor _ qv hqv;have hb:before changes (k+1)=some changes[k]:=by simp only[before,Zn1 hk]
       simp only[hb] at hS;simp only[Ql] at ld2 hmo;simp only[wX,↓Qc,simprocAttr,c0,j2,c1,at1,ld1,hm1,hmc,Xo,Qbr,Bp,Qb1,g12,g15,rd3,rd5,Qsj,Qzp,sdv]
       repeat' ((first|refine W.guardF ?_ ?_|refine W.guardT ?_ ?_|refine W.guardXF ?_ ?_|refine W.guardXT ?_ ?_|refine W.ite ?_ ?_|refine W.opsK1 (by kernel_rfl) ?_)<;>intro h<;>simp only[wX,↓Qc,simprocAttr,h,c0,wk,at2,ld2,hmo,j2,c1,at1,ld1,hm1,hmc,Xo,Qbr,Bp,Qb1,g12,g15,rd3,rd5,Qsj,Qzp,sdv])
       all_goals first
        |(refine W.done ?_
          simp only[wA,↓Qc,simprocAttr];refine W.done (Q0.ret rfl rfl ?_);rw[<-hnb,hS];simp only[*,Yf,if_true,if_false]
          try rfl)
        |(try simp only[wA,↓Qc,simprocAttr,w1,(rfl:(IntKind.i64).wrap 1=1)]
          refine W.done ⟨_,⟨_,rfl,by omega,rfl,.inr ⟨_,rfl⟩,?_⟩,by omega⟩;rw[hS,hnx];simp only[*,Yf,if_true,if_false]
          try rfl)
   . have c1:decide ((i:Int)<changes.length)=false:=Zri (by omega);have hC:Qgc lines none changes=true:=by
      rw[<-hR,Zqe (by omega)];cases hb:before changes i<;>rfl
     rw[hC,if_pos rfl] at hnb;simp only[wA,↓Qc,simprocAttr,c1];refine W.done ?_;obtain⟨r,H',e1,e2,rfl⟩:=hcont [(1,.cells pc)] pc (by simp only[Zg,O.refs,gr];rfl) rfl gl nid ng g17 g18;subst e2;have hcall:∀d,callOp Qg (Qn Tp Qg) 19 0 d 53 [lv,.func (.func 54) [] [.ptr 0 1 0]] [[(1,.cells pc)]]=_:=fun d=>Za rfl rfl rfl e1;simp only[wA,↓Qc,simprocAttr,g12,Qsj,ta,wH,hcall];refine W.ite ?_ ?_<;>intro h2<;>simp only[wA,↓Qc,simprocAttr,ta,wH]
     . refine W.done (Q0.ret rfl rfl ?_);rw[<-hnb,h2];rfl
     . refine W.done (Q0.ret rfl rfl ?_);rw[<-hnb,h2];rfl
end Go.Proofs.YtjllfbejpjonnaaGreatDoor
namespace Go.Proofs.YtjllfbejpjonnaaGreatDoor
open Go.AM
attribute [local irreducible] U W
abbrev dOf(x:Kc):Int:=okE (Jn x.blocks x.waits)
abbrev Qaz(x:Kc):Bool:=Qah (dOf x) (Yx x.space) (Qev x.space) x.p
theorem Qo.toI{cv:V}{x:Kc}(h:∃cs,Qo cs x.p.changes x.datas/\Qw 12 cv cs x.p.changes.length):Qt2 cv x.p.changes:=by obtain⟨cs,h1,h2⟩:=h;exact⟨cs,h1.toC,h2⟩
section
variable {bv wv sv mv lv kv ov cv : V} {x : Kc}
theorem Qog(h:K5 bv wv sv mv lv kv ov cv x)(f:x.Fits):Xn bv wv sv x.blocks x.waits x.space:=⟨h.blocks,h.waits,h.space,f.blocks,f.waits,f.wat⟩
theorem toPool(h:K5 bv wv sv mv lv kv ov cv x)(f:x.Fits):Q9u bv wv sv mv lv kv ov cv (dOf x) x.space x.p:=by obtain⟨bcs,hbc,hbv⟩:=id h.blocks;obtain⟨wcs,hwc,hwv⟩:=id h.waits;exact⟨Qd5 bv wv _ _ h.blocks h.waits f.blocks f.waits,Ks h.blocks h.waits _,fun g m=>⟨hbv.frz _,hwv.frz _⟩,fun q=>⟨hbv.noRefs _,hwv.noRefs _⟩,Q4 hbv,Q4 hwv,h.space,h.own,h.lines,h.keys,h.loaded,Qo.toI h.changes,f.own,f.lines,f.changes,f.keys,f.loaded,f.keyl,f.loadedl⟩
theorem Q5q(h:K5 bv wv sv mv lv kv ov cv x)(f:x.Fits):Fz Tp Qg 19 [.agg (Qf bv wv sv mv lv kv ov cv x.p)] fun r=>r= .int .i64 (okE (Qaz x)):=Zar (toPool h f)
end
end Go.Proofs.YtjllfbejpjonnaaGreatDoor
namespace Go.Proofs.YtjllfbejpjonnaaGreatDoor
open Go.AM
attribute [local irreducible] U W
theorem Qby{α:Type}(p:α->Bool):∀(l:List α) (k:Nat),Q8 p k l= -1\/∃i,∃h:i<l.length,Q8 p k l=((k+i:Nat):Int)/\p l[i]=true
 |[],k=> .inl rfl
 |x::r,k=>by
  have e:Q8 p k (x::r)=if p x=true then(k:Int) else Q8 p (k+1) r:=rfl
  by_cases h:p x=true
  . exact .inr ⟨0,by simp,by rw[e,if_pos h];rfl,h⟩
  . rw[e,if_neg h];rcases Qby p r (k+1) with h1|⟨i,hi,h1,h2⟩
    . exact .inl h1
    . exact .inr ⟨i+1,by simpa using hi,by rw[h1];congr 1;omega,h2⟩
section
variable {bv wv sv mv lv kv ov cv : V} {x : Kc}
theorem Qye(h:K5 bv wv sv mv lv kv ov cv x)(g:Get):frz g depth (.agg (Qf bv wv sv mv lv kv ov cv x.p))=some (.agg (Qf bv wv sv mv lv kv ov cv x.p)):=by
 obtain⟨_,_,h1⟩:=h.blocks;obtain⟨_,_,h2⟩:=h.waits;obtain⟨_,_,h5⟩:=h.lines;obtain⟨_,_,h6⟩:=h.keys;obtain⟨_,_,h7⟩:=h.loaded;obtain⟨_,_,h8⟩:=h.changes;show Option.map V.agg (Q5 (AM.frz _ 11) (Qf bv wv sv mv lv kv ov cv x.p))=_;have e:Q5 (AM.frz g 11) (Qf bv wv sv mv lv kv ov cv x.p)=some (Qf bv wv sv mv lv kv ov cv x.p):=by
  simp only[Qf]
  repeat' (first|refine Qa rfl ?_|refine Qa (h1.frz 10) ?_|refine Qa (h2.frz 10) ?_|refine Qa (h.space.frz 10) ?_|refine Qa (Qw.frz h.own 10) ?_|refine Qa (h5.frz 10) ?_|refine Qa (h6.frz 10) ?_|refine Qa (h7.frz 10) ?_|refine Qa (h8.frz 10) ?_|rfl)
 rw[e];rfl
theorem Qia(h:K5 bv wv sv mv lv kv ov cv x):bv.scalar=true/\wv.scalar=true/\sv.scalar=true/\mv.scalar=true/\lv.scalar=true/\kv.scalar=true/\ov.scalar=true/\cv.scalar=true:=by obtain⟨_,_,h1⟩:=h.blocks;obtain⟨_,_,h2⟩:=h.waits;obtain⟨_,_,h5⟩:=h.lines;obtain⟨_,_,h6⟩:=h.keys;obtain⟨_,_,h7⟩:=h.loaded;obtain⟨_,_,h8⟩:=h.changes;exact⟨Q4 h1,Q4 h2,Q4 h.space,Q4 h.own,Q4 h5,Q4 h6,Q4 h7,Q4 h8⟩
end
end Go.Proofs.YtjllfbejpjonnaaGreatDoor
namespace Go.Proofs.YtjllfbejpjonnaaGreatDoor
open Go.AM
attribute [local irreducible] U W
theorem Qu3(v:V)(l:List Yb)(hv:Qa5 v l)(hl:l.length<=1000000):Fz Tp Qg 60 [v] fun r=>Qa5 r l:=by
 refine Zm Tryz.func60 rfl ?_;obtain⟨hlen,⟨rfl,hn⟩|⟨f,rfl⟩⟩:=id hv
 . have h0:l=[]:=Zoz hn;subst h0;have e:∀p q,Zq Tp .eql 50 p q .nS .nS=some (.bool true):=fun p q=>rfl;simp only[wX,↓Qc,simprocAttr,Tryz.ntmps60,e];exact W.done (Q0.ret rfl rfl Qw.nil)
 . have sc:∀g,Qk g 5 (.iS (Xi l) l.length f)=some (Xi l,l.length):=fun g=>Qw.sc hv;have mt7:Qg.mt 60 7=false:=B2 (by decide) rfl;have mt5:Qg.mt 60 5=false:=B2 (by decide) rfl;by_cases h0:l=[]
   . subst h0;have ap:Qr Tp (Qg.mt 60) 0 (Qd [[]]) (some 7) 50 50 (.iS [] 0 true) (.iS (Xi []) 0 f)=some (.val (.iS [] 0 true) none):=by
      have:=sc (Qd [[]]);simp only[Zpt] at this;simp only[Qr,Zu8,sz31,byP,zc31,Ji,this];rfl
     simp only[wX,↓Qc,simprocAttr,Tryz.ntmps60,Jj Zu8,Qv,ap,mt7,mt5,Zu8,Zpt];exact W.done (Q0.ret (v:= .iS [] 0 true) (v' := .iS [] 0 true) rfl rfl (Qw.mk (cells:=[]) rfl))
   . have hp:0<l.length:=List.length_pos_iff.2 h0;have ap:Qr Tp (Qg.mt 60) 0 (Qd [[]]) (some 7) 50 50 (.iS [] 0 true) (.iS (Xi l) l.length f)=some (.val (.gS 0 7 (Xi l) l.length 5) (some (0,7,.grow l.length))):=by
      rw[Qcf Zu8 sz31 byP zc31 rfl Zu8 (sc _) hp rfl (Zw (by omega) (by omega)),Zpu,Zod,Kr mt7 (Qms (Qmq l)) rfl]
     simp only[wX,↓Qc,simprocAttr,Tryz.ntmps60,Jj Zu8,Qv,ap,mt7,mt5,Zu8];refine W.done (Q0.ret (v:= .gS 0 7 (Xi l) l.length 5) (v' := .iS (Xi l) l.length false) rfl ?_ (Qw.mk (Qto l)));show(Q5 (AM.frz _ 11) (Xi l)).map _=_;rw[Qdk _ 10 (Qmq l)];rfl
end Go.Proofs.YtjllfbejpjonnaaGreatDoor
end
