/- This file holds in one the texts DS, DS2, DI, F6, E1, F7, D1, D2; each says at its head what it proves. -/
import Derived.Test.YtjllfbejpjonnaaGreatDoorT12
import Derived.Test.YtjllfbejpjonnaaGreatDoorT16
import Derived.Test.YtjllfbejpjonnaaGreatDoorT18
import Derived.Test.YtjllfbejpjonnaaGreatDoorT21
set_option linter.unusedSimpArgs false
set_option linter.unusedVariables false
namespace Go.Proofs.YtjllfbejpjonnaaGreatDoor
section
set_option maxRecDepth 100000
open Go.AM Go.AM.BM
attribute [local irreducible] U W
theorem Q3e(n:Nat):(IntKind.u32).wrap (n:Int)=((n%4294967296:Nat):Int):=by simp[IntKind.wrap,IntKind.bits,IntKind.signed]
theorem Qv2(n:Nat)(h:n<4294967296):(BitVec.ofInt 32 (n:Int)).toNat=n:=by simp[BitVec.toNat_ofInt];omega
theorem addU(a b:Nat):Qfe .add .u32 a b=some (.int .u32 (Qdf a b:Nat)):=by
 have:((a:Int)+b)=((a+b:Nat):Int):=by omega
 simp only[Qfe];rw[this,Q3e];rfl
theorem xorU(a b:Nat)(ha:a<4294967296)(hb:b<4294967296):Qfe .xor .u32 a b=some (.int .u32 (Nat.xor a b:Nat)):=by
 have e:(BitVec.ofInt (IntKind.u32).bits (a:Int)^^^BitVec.ofInt (IntKind.u32).bits (b:Int)).toNat=Nat.xor a b:=by show(BitVec.ofInt 32 (a:Int)^^^BitVec.ofInt 32 (b:Int)).toNat=_;rw[BitVec.toNat_xor,Qv2 a ha,Qv2 b hb];rfl
 have l:Nat.xor a b<4294967296:=Nat.xor_lt_two_pow (n:=32) ha hb;simp only[Qfe];rw[e,Q3e,Nat.mod_eq_of_lt l]
theorem orU(a b:Nat)(ha:a<4294967296)(hb:b<4294967296):Qfe .or .u32 a b=some (.int .u32 (Nat.lor a b:Nat)):=by
 have e:(BitVec.ofInt (IntKind.u32).bits (a:Int)|||BitVec.ofInt (IntKind.u32).bits (b:Int)).toNat=Nat.lor a b:=by show(BitVec.ofInt 32 (a:Int)|||BitVec.ofInt 32 (b:Int)).toNat=_;rw[BitVec.toNat_or,Qv2 a ha,Qv2 b hb];rfl
 have l:Nat.lor a b<4294967296:=Nat.or_lt_two_pow (n:=32) ha hb;simp only[Qfe];rw[e,Q3e,Nat.mod_eq_of_lt l]
theorem shlU(a k:Nat)(hk:k<32):Qep .shl .u32 a k=some (.int .u32 (Nat.mod (Nat.shiftLeft a k) 4294967296:Nat)):=by
 have e:min (k:Int).toNat (IntKind.u32).bits=k:=by have:(k:Int).toNat=k:=rfl;rw[this];show min k 32=k;omega
 have e2:(a:Int)*2^k=((Nat.shiftLeft a k:Nat):Int):=by show _=((a<<<k:Nat):Int);rw[Nat.shiftLeft_eq];simp
 simp only[Qep,e,e2,Q3e];rw[if_neg (by omega)];rfl
theorem shrU(a k:Nat)(hk:k<32):Qep .shr .u32 a k=some (.int .u32 (Nat.shiftRight a k:Nat)):=by
 have e:min (k:Int).toNat (IntKind.u32).bits=k:=by have:(k:Int).toNat=k:=rfl;rw[this];show min k 32=k;omega
 have e2:(a:Int).fdiv (2^k)=((Nat.shiftRight a k:Nat):Int):=by show _=((a>>>k:Nat):Int);rw[Nat.shiftRight_eq_div_pow,Int.fdiv_eq_ediv_of_nonneg _ (Int.le_of_lt (Int.pow_pos (by decide)))];simp
 simp only[Qep,e,e2];rw[if_neg (by omega)]
theorem Qz2(x k:Nat)(hx:x<4294967296):Qho x k<4294967296:=by
 have a:Nat.mod (Nat.shiftLeft x k) 4294967296<4294967296:=Nat.mod_lt _ (by decide);have b:Nat.shiftRight x (32-k)<4294967296:=by have:Nat.shiftRight x (32-k)=x>>>(32-k):=rfl;rw[this,Nat.shiftRight_eq_div_pow];exact Nat.lt_of_le_of_lt (Nat.div_le_self _ _) hx
 exact Nat.or_lt_two_pow (n:=32) a b
theorem Q80(x k:Nat)(hx:x<4294967296)(hk:k=15\/k=11\/k=9\/k=6):Fz Tp Qg 248 [.int .u32 x,.int .i64 k] fun r=>r= .int .u32 (Qho x k:Nat):=by
 refine Zm Tryz.func248 rfl ?_;have k32:k<32:=by omega
 have cv:∀g,convertV Tp g 3 44 (.int .i64 k)=some (.val (.int .u64 k) none):=fun g=>by rcases hk with rfl|rfl|rfl|rfl<;>kernel_rfl
 have bA:∀p q,Zq Tp .and 44 p q (.int .u64 k) (.int .u64 31)=some (.int .u64 k):=fun p q=>by rcases hk with rfl|rfl|rfl|rfl<;>rfl
 have bS:∀p q,Zq Tp .sub 44 p q (.int .u64 32) (.int .u64 k)=some (.int .u64 ((32-k:Nat):Int)):=fun p q=>by rcases hk with rfl|rfl|rfl|rfl<;>rfl
 have b1:∀p q,Zq Tp .shl 27 p q (.int .u32 x) (.int .u64 k)=_:=fun p q=>shlU x k k32;have b2:∀p q,Zq Tp .shr 27 p q (.int .u32 x) (.int .u64 ((32-k:Nat):Int))=_:=fun p q=>shrU x (32-k) (by omega);have b3:∀p q,Zq Tp .or 27 p q (.int .u32 (Nat.mod (Nat.shiftLeft x k) 4294967296:Nat)) (.int .u32 (Nat.shiftRight x (32-k):Nat))=_:=fun p q=>orU _ _ (Nat.mod_lt _ (by decide)) (by
  have:Nat.shiftRight x (32-k)=x>>>(32-k):=rfl;rw[this,Nat.shiftRight_eq_div_pow]
  exact Nat.lt_of_le_of_lt (Nat.div_le_self _ _) hx)
 generalize hr:(Nat.lor _ _:Nat)=r at b3;have er:Qho x k=r:=hr;rw[er];generalize(Nat.mod (Nat.shiftLeft x k) 4294967296:Nat)=u at b1 b3;generalize(Nat.shiftRight x (32-k):Nat)=w at b2 b3;generalize(32-k:Nat)=m at bS b2;simp only[wX,↓Qc,simprocAttr,Tryz.ntmps248,cv,bA,bS,b1,b2,b3];exact W.done (Q0.ret rfl rfl rfl)
def u32(n:Nat):V:= .int .u32 n
def wc(x:W4):List V:=[.int .u32 x.a,.int .u32 x.b,.int .u32 x.c,.int .u32 x.d]
def zW:List V:=[.int .u32 0,.int .u32 0,.int .u32 0,.int .u32 0]
def wok(x:W4):Prop:=x.a<4294967296/\x.b<4294967296/\x.c<4294967296/\x.d<4294967296
theorem Qpf{α:Type}(x:Nat)(k:Nat->α):Qi3 x k=k x:=by unfold Qi3;cases x<;>rfl
theorem Qyo(far near:Nat)(x:W4):Qg1 far near x=⟨Qdf x.a x.b,Qho (Nat.xor x.b (Qdf x.c (Qho (Nat.xor x.d (Qdf x.a x.b)) far))) near,Qdf x.c (Qho (Nat.xor x.d (Qdf x.a x.b)) far),Qho (Nat.xor x.d (Qdf x.a x.b)) far⟩:=by unfold Qg1;simp only[Qpf]
theorem Qb2(a b:Nat):Qdf a b<4294967296:=Nat.mod_lt _ (by decide)
theorem Qeu{a b:Nat}(ha:a<4294967296)(hb:b<4294967296):Nat.xor a b<4294967296:=Nat.xor_lt_two_pow (n:=32) ha hb
theorem Qqg{far near:Nat}{x:W4}(h:wok x):wok (Qg1 far near x):=by obtain⟨ha,hb,hc,hd⟩:=h;rw[Qyo];have h1:=Qz2 _ far (Qeu hd (Qb2 x.a x.b));exact⟨Qb2 _ _,Qz2 _ _ (Qeu hb (Qb2 _ _)),Qb2 _ _,h1⟩
theorem ia0(f s:Nat):Qm Tp 176 (.ptr f s 0) (.int .i64 0)=some (.ptr f s 0):=by simp only[Qm,Zu14,Quu];rfl
theorem ia1(f s:Nat):Qm Tp 176 (.ptr f s 0) (.int .i64 1)=some (.ptr f s 1):=by simp only[Qm,Zu14,Quu];rfl
theorem ia2(f s:Nat):Qm Tp 176 (.ptr f s 0) (.int .i64 2)=some (.ptr f s 2):=by simp only[Qm,Zu14,Quu];rfl
theorem ia3(f s:Nat):Qm Tp 176 (.ptr f s 0) (.int .i64 3)=some (.ptr f s 3):=by simp only[Qm,Zu14,Quu];rfl
theorem Q3k(far near:Nat)(hf:far=15\/far=11\/far=9\/far=6)(hn:near=15\/near=11\/near=9\/near=6)(x:W4)(hx:wok x):
 CW Tp Qg 247 [.int .i64 far,.int .i64 near,.ptr 0 1 0] [[(1,.cells (wc x)),(2,.cells zW)]] fun r H' =>r= .ret (.tuple [])/\H' =[[(1,.cells (wc (Qg1 far near x))),(2,.cells zW)]]:=by
 refine Zu Tryz.func247 rfl ?_;obtain⟨a,b,c,d⟩:=x;obtain⟨ha,hb,hc,hd⟩:=hx;simp only at ha hb hc hd;have bA:∀p q (x y:Nat),Zq Tp .add 27 p q (.int .u32 x) (.int .u32 y)=some (.int .u32 (Qdf x y:Nat)):=fun p q x y=>addU x y;have x1:∀p q,Zq Tp .xor 27 p q (.int .u32 d) (.int .u32 (Qdf a b:Nat))=_:=fun p q=>xorU d _ hd (Qb2 _ _);have l1:=Qeu hd (Qb2 a b);rw[Qyo];simp only[wc] at*;generalize(Nat.xor d (Qdf a b):Nat)=d1 at*;obtain⟨m,rfl,hm⟩:=(Q80 d1 far l1 hf).op (by rfl) rfl;have hm' :∀s H,_:=fun s H=>hm 247 1 s H rfl;have l2:=Qz2 d1 far l1;generalize(Qho d1 far:Nat)=d2 at*;have x2:∀p q,Zq Tp .xor 27 p q (.int .u32 b) (.int .u32 (Qdf c d2:Nat))=_:=fun p q=>xorU b _ hb (Qb2 _ _);have l3:=Qeu hb (Qb2 c d2);generalize(Nat.xor b (Qdf c d2):Nat)=b1 at*;obtain⟨m2,rfl,hm2⟩:=(Q80 b1 near l3 hn).op (by rfl) rfl;have hm2' :∀s H,_:=fun s H=>hm2 247 1 s H rfl;generalize(Qho b1 near:Nat)=b2 at*;simp only[wX,↓Qc,simprocAttr,Tryz.ntmps247,ia0,ia1,ia2,ia3,bA,x1,x2,hm',hm2'];exact W.done (End.normal (v:= .tuple []) rfl ⟨rfl,rfl⟩)
theorem sc_w(x:W4):(wc x).all V.scalar=true:=rfl
theorem ln_w(x:W4):(wc x).length=4:=rfl
theorem rd_w(x:W4):Q3 Tp 176 (wc x) 0=some (.agg (wc x)):=by rw[rd176];rfl
theorem sp_w(x y:W4):splice (wc x) 0 (wc y)=wc y:=rfl
theorem sp_z(y:W4):splice zW 0 (wc y)=wc y:=rfl
theorem tk_w(x:W4):(wc x).take 4=wc x:=rfl
theorem ln_z:zW.length=4:=rfl
theorem Q5p(x:W4)(hx:wok x):Fz Tp Qg 222 [.agg (wc x)] fun r=>r= .agg (wc (Qh4 x)):=by refine Zm Tryz.func222 rfl ?_;obtain⟨r1,K1,e1,rfl,rfl⟩:=Q3k 15 11 (by omega) (by omega) x hx;obtain⟨r2,K2,e2,rfl,rfl⟩:=Q3k 9 6 (by omega) (by omega) _ (Qqg (far:=15) (near:=11) hx);have c1:∀s,AM.callOp Qg (Qn Tp Qg) 222 0 s 247 [.int .i64 15,.int .i64 11,.ptr 0 1 0] [[(1,.cells (wc x)),(2,.cells zW)]]=_:=fun s=>Za rfl rfl rfl e1;have c2:∀s,AM.callOp Qg (Qn Tp Qg) 222 0 s 247 [.int .i64 9,.int .i64 6,.ptr 0 1 0] [[(1,.cells (wc (Qg1 15 11 x))),(2,.cells zW)]]=_:=fun s=>Za rfl rfl rfl e2;have ez:([.int .u32 0,.int .u32 0,.int .u32 0,.int .u32 0]:List V)=zW:=rfl;have et:Qh4 x=Qg1 9 6 (Qg1 15 11 x):=rfl;rw[et];simp only[wX,↓Qc,simprocAttr,Tryz.ntmps222,c1,c2,ez,sc_w,ln_w,rd_w,sp_w,sp_z,ln_z,tk_w];exact W.done (Q0.ret (v:= .agg (wc (Qg1 9 6 (Qg1 15 11 x)))) rfl rfl rfl)
theorem Qrd{x:W4}(h:wok x):wok (Qh4 x):=Qqg (Qqg h)
theorem Qz1(n:Nat)(x:W4):Bg (n+1) x=Bg n (Qh4 x):=rfl
theorem Qlw:∀(n:Nat) {x:W4},wok x->wok (Bg n x)
 |0,_,h=>h
 |n+1,x,h=>by rw[Qz1];exact Qlw n (Qrd h)
theorem Qxp(n:Nat)(hn:n<1000)(x:W4)(hx:wok x):Fz Tp Qg 170 [.agg (wc x),.int .i64 n] fun r=>r= .agg (wc (Bg n x)):=by
 refine Zm Tryz.func170 rfl ?_;have ez:([.int .u32 0,.int .u32 0,.int .u32 0,.int .u32 0]:List V)=zW:=rfl;simp only[wX,↓Qc,simprocAttr,Tryz.ntmps170,ez,sc_w,ln_w,rd_w,sp_w,sp_z,ln_z,tk_w];refine W.ul ?_;refine W.loopS (kt:=[2,4,5,6]) rfl (fun a:Nat×W4=>Q36 (.ptr 0 2 0) (.ptr 0 4 0) (.int .i64 n) (.int .i64 a.1)) (fun a=>[[(2,.cells (wc a.2)),(4,.cells zW)]]) (fun a=>a.1<=n/\wok a.2/\Bg (n-a.1) a.2=Bg n x) (fun a=>n-a.1) ?_ (0,x) ⟨by simp,hx,rfl⟩ rfl rfl;rintro⟨i,y⟩ ⟨hi,hy,he⟩;simp only at hi hy he;simp only[Q36];by_cases h:i<n
 . have c1:decide ((i:Int)<n)=true:=by simp;omega
   obtain⟨m,rfl,hm⟩:=(Q5p y hy).op (by rfl) rfl;have hm' :∀s H,_:=fun s H=>hm 170 0 s H rfl;have w1:(IntKind.i64).wrap ((i:Int)+1)=((i+1:Nat):Int):=by rw[wrap_i64]<;>omega
   simp only[wX,↓Qc,simprocAttr,c1,hm',w1,sc_w,ln_w,rd_w,sp_w,sp_z,ln_z,tk_w];refine W.done ⟨(i+1,Qh4 y),rfl,rfl,⟨by simp only;omega,Qrd hy,?_⟩,by simp only;omega⟩;rw[<-he];have:n-i=(n-(i+1))+1:=by omega
   simp only;rw[this];rfl
 . have c1:decide ((i:Int)<n)=false:=by simp;omega
   have hn' :n-i=0:=by omega
   rw[hn'] at he;have he' :y=Bg n x:=he;subst he';simp only[wA,↓Qc,simprocAttr,c1];refine W.done ?_;simp only[wX,↓Qc,simprocAttr,c1,sc_w,ln_w,rd_w,sp_w,sp_z,ln_z,tk_w];exact W.done (Q0.ret (v:= .agg (wc (Bg n x))) rfl rfl rfl)
theorem Qj0:byt Tp 5=some 1:=by kernel_rfl
theorem Q1t{l:List UInt8}{f s n e:Nat}(g:Get)(m:Nat):frz g (m+2) (.gS f s (Qb l) n e)=some (.iS (Qb l) n false):=by have:Q5 (frz g (m+1)) (Qb l)=some (Qb l):=Bu _ _ _;show(Q5 (frz g (m+1)) (Qb l)).map _=_;rw[this];rfl
theorem Q2q{g:Get}{f s:Nat}{l:List UInt8}(h:g f s=some (.cells (Qb l)))(m:Nat):frz g (m+2) (.mS f s 0 l.length none 1)=some (.iS (Qb l) l.length false):=by
 have e:Q5 (frz g (m+1)) (Qb l)=some (Qb l):=Bu _ _ _;have t:((Qb l).drop 0).take (l.length*1)=Qb l:=by rw[Zpe,Zof];exact Zpf (by rw[Qy];exact Zn6 _)
 show(match g f s with
  |some (.cells xs)=>if 0+l.length*1<=xs.length then(Q5 (frz g (m+1)) ((xs.drop 0).take (l.length*1))).map fun cs=>V.iS cs l.length ((none:Option Nat)==some l.length) else none
  |_=>none)=_
 rw[h];rw[Zof] at t;simp only[Zof,t,e,Zod,Qy,Zn6,if_true];rfl
theorem scl_fz(v:V)(l:List UInt8)(hv:Qe v l)(hl:l.length<=1048576):Fz Tp Qg 133 [v] fun r=>Qe r l:=by
 refine Zm Tryz.func133 rfl ?_;by_cases hn:v= .nS
 . subst hn;have h0:l=[]:=by
    obtain⟨hlen,⟨_,h⟩|⟨f,h⟩⟩:=hv
    . exact Zoz h
    . cases h
   subst h0;have e:∀p q,Zq Tp .eql 26 p q .nS .nS=some (.bool true):=fun p q=>rfl;simp only[wX,↓Qc,simprocAttr,Tryz.ntmps133,e];exact W.done (Q0.ret rfl rfl Qe.nil)
 . have hv' :=hv;obtain⟨hlen,⟨h,_⟩|⟨f,rfl⟩⟩:=hv
   . exact absurd h hn
   have sc:=Qw.sc (g:=Qd [[]]) hv';have mt7:Qg.mt 133 7=true:=rfl;have mt5:Qg.mt 133 5=false:=rfl;by_cases h0:l=[]
   . subst h0;have ap:Qr Tp (Qg.mt 133) 0 (Qd [[]]) (some 7) 26 26 (.iS [] 0 true) (.iS (Qb []) 0 f)=some (.val (.iS [] 0 true) none):=by
      simp only[Qr,Zu0,sz5,Qj0,zc5,Ji,sc];rfl
     simp only[wX,↓Qc,simprocAttr,Tryz.ntmps133,Jj Zu0,Qv,ap,mt7,mt5,Zu0];refine W.done ?_;refine Q0.ret (v:= .iS [] 0 true) (v' := .iS [] 0 true) rfl rfl ?_;exact Qe.mk [] true
   . have hp:0<l.length:=List.length_pos_iff.2 h0;have ap:Qr Tp (Qg.mt 133) 0 (Qd [[]]) (some 7) 26 26 (.iS [] 0 true) (.iS (Qb l) l.length f)=some (.val (.mS 0 7 0 l.length none 1) (some (0,7,.cells (Qb l)))):=by
      rw[Qcf Zu0 sz5 Qj0 zc5 rfl Zu0 sc hp rfl (Zw (by omega) (by omega)),Zpu,Zod,Qav mt7 (Z8 l) rfl]
     simp only[wX,↓Qc,simprocAttr,Tryz.ntmps133,Jj Zu0,Qv,ap,mt7,mt5,Zu0];exact W.done (Q0.ret (v:= .mS 0 7 0 l.length none 1) rfl (Q2q rfl 10) (Qe.mk l false))
theorem Zep(v:V)(l:List UInt8)(hv:Qe v l)(hl:l.length<=1048576):Fz Tp Qg 168 [v] fun r=>Qe r l/\(r= .nS\/∃c n,r= .iS c n true):=by
 refine Zm Tryz.func168 rfl ?_;have len:=hv.len Zu0;have h2:∃w,(∀g,Zn Tp g 26 v none (some (.int .i64 l.length)) (some (.int .i64 l.length))=some w)/\Qe w l/\(w= .nS\/∃c n,w= .iS c n true):=by
  have ol:∀x:Nat,Jt (some (.int .i64 x))=some (some (x:Int)):=fun x=>rfl;obtain⟨hl',⟨rfl,h0⟩|⟨f,rfl⟩⟩:=hv
  . have e:l=[]:=Zoz h0;subst e;refine⟨.nS,fun g=>?_,Qe.nil,.inl rfl⟩;simp only[Zn,ol,Zu0,sz5,Xh];rfl
  . refine⟨.iS (Qb l) l.length true,fun g=>?_,Qe.mk _ _,.inr ⟨_,_,rfl⟩⟩;have on:Jt none=some none:=rfl;simp only[Zn,ol,on,Zu0,sz5,Qll,hl',if_true,Xh,Zpb,Zo0];rw[if_pos ⟨by omega,by omega,by omega,by omega,by omega,by omega,by simp⟩];have:((Qb l).take l.length)=Qb l:=Zpf (by rw[Qy];exact Zn6 _);simp[this]
 obtain⟨w,sl,hw,hc⟩:=h2;simp only[wX,↓Qc,simprocAttr,Tryz.ntmps168,len,sl];exact W.done (Q0.ret (v:=w) rfl (hw.frz _) ⟨hw,hc⟩)
def Qbj(l:List UInt8)(k:Nat):List UInt8:=l++1::List.replicate k 0
theorem Qeb(l:List UInt8)(k:Nat):(Qbj l k).length=l.length+1+k:=by simp[Qbj];omega
theorem Q4b(l:List UInt8)(k:Nat):Qbj l k++[0]=Qbj l (k+1):=by simp[Qbj,List.replicate_succ']
noncomputable def Qiw(y:W4)(p:List UInt8):W4:=Bg 4 ⟨Nat.xor y.a (Yp (p.take 4)),y.b,Nat.xor y.c (Yp (p.drop 4)),y.d⟩
noncomputable def Qfb(l:List UInt8):Nat->W4
 |0=>⟨1,2,3,4⟩
 |j+1=>Qiw (Qfb l j) ((l.drop (8*j)).take 8)
theorem Q38{l:List UInt8}(h:l.length=4):Yp l<4294967296:=by have:=Qoa l;rw[h] at this;exact this
theorem Q8g{y:W4}{p:List UInt8}(hy:wok y)(hp:p.length=8):wok (Qiw y p):=by obtain⟨h1,h2,h3,h4⟩:=hy;exact Qlw 4 ⟨Qeu h1 (Q38 (by simp;omega)),h2,Qeu h3 (Q38 (by simp;omega)),h4⟩
theorem Q27(z:W4)(n:Nat)(T:List V){G:AM.Heap}(hr:Qi (fun f _=>Nat.ble 1 f) T=false)(hG:G=[[]]\/G=[]):WF ([[(2,.cells zW),(3,.cells [.int .u32 z.a,.int .u32 z.b,.int .u32 z.c,.int .u32 z.d]),(11,.grow n),(1000006,.loop 0 none 115 6 T)]]++G):=by
 have h2:WF [[(2,.cells zW),(3,.cells [.int .u32 z.a,.int .u32 z.b,.int .u32 z.c,.int .u32 z.d]),(11,.grow n),(1000006,.loop 0 none 115 6 T)]]:=by have h0:(O.loop 0 none 115 6 T).refs (fun f _=>Nat.ble 1 f)=false:=hr;show Q2 (fun f _=>Nat.ble 1 f) _=true;simp only[Q2,Zg,h0];rfl
 rcases hG with rfl|rfl
 . exact h2.app rfl
 . exact h2
theorem Qz7(y:W4)(hy:wok y)(n:Nat)(T:List V)(hT:T.length=47)(h3:T.getD 3 .bad= .ptr 0 3 0)(hr:Qi (fun f _=>Nat.ble 1 f) T=false)(w:V)(p:List UInt8)(hw:Qe w p)(hp:p.length=8):
 Qn Tp Qg none [.yield 0 1000006,w] ([[(2,.cells zW),(3,.cells (wc y)),(11,.grow n),(1000006,.loop 0 none 115 6 T)]]++[[]])=some (.ret (.bool true),[[(2,.cells zW),(3,.cells (wc (Qiw y p))),(11,.grow n),(1000006,.loop 0 none 115 6 T)]]++[[]]):=by
 obtain⟨r,H3,h1,rfl,rfl⟩:=Qe3 (P:=Tp) (pol:=Qg) (fo:=0) (so:=1000006) (args:=[w]) (H:=[[(2,.cells zW),(3,.cells (wc y)),(11,.grow n),(1000006,.loop 0 none 115 6 T)],[]]) (p:=none) (fL:=115) (rid:=6) (t0:=T)
  (R:=fun r H3=>r= .ret (.bool true)/\H3=[[(2,.cells zW),(3,.cells (wc (Qiw y p))),(11,.grow n),(1000006,.loop 0 none 115 6 T)],[]]) rfl (Qcw Tryz.func115 rfl rfl) rfl (by
    change W (U _ _ _ _ _ _ _ .normal (T.set 21 _) _) _;have hy' :=hy;obtain⟨ya,yb,yc,yd⟩:=hy';obtain⟨w1,sl1,hw1⟩:=hw.cut (P:=Tp) Zu0 sz5 none (some 4) (by simp) (by simp) (by simp only[Zpb];omega);obtain⟨w2,sl2,hw2⟩:=hw.cut (P:=Tp) Zu0 sz5 (some 4) none (by simp) (by simp only[Zpb,Zo0];omega) (by simp);have e1:(p.drop ((none:Option Int).getD 0).toNat).take (((some (4:Int)).getD p.length).toNat-((none:Option Int).getD 0).toNat)=p.take 4:=by simp
    have e2:(p.drop ((some (4:Int)).getD 0).toNat).take (((none:Option Int).getD p.length).toNat-((some (4:Int)).getD 0).toNat)=p.drop 4:=by simp only[Zpb,Zo0,Zqh];rw[Zpf (by simp)];rfl
    rw[e1] at hw1;rw[e2] at hw2;simp only[Zn2,Zpl] at sl1 sl2;obtain⟨m1,rfl,hm1⟩:=(Qt5 w1 _ hw1 (by simp;omega)).op (by rfl) (Qa (hw1.frz _) rfl);obtain⟨m2,rfl,hm2⟩:=(Qt5 w2 _ hw2 (by simp;omega)).op (by rfl) (Qa (hw2.frz _) rfl);have hm1' :∀s H,_:=fun s H=>hm1 115 2 s H rfl;have hm2' :∀s H,_:=fun s H=>hm2 115 2 s H rfl;have l1:Yp (p.take 4)<4294967296:=Q38 (by simp;omega);have l2:Yp (p.drop 4)<4294967296:=Q38 (by simp;omega);have b1:∀a b,Zq Tp .xor 27 a b (.int .u32 y.a) (.int .u32 (Yp (p.take 4)))=_:=fun a b=>xorU y.a _ ya l1;have b2:∀a b,Zq Tp .xor 27 a b (.int .u32 y.c) (.int .u32 (Yp (p.drop 4)))=_:=fun a b=>xorU y.c _ yc l2;have x1:=Qeu ya l1;have x2:=Qeu yc l2;have es:Qiw y p=Bg 4 ⟨Nat.xor y.a (Yp (p.take 4)),y.b,Nat.xor y.c (Yp (p.drop 4)),y.d⟩:=rfl;rw[es];generalize(Nat.xor y.a (Yp (p.take 4)):Nat)=xa at*;generalize(Nat.xor y.c (Yp (p.drop 4)):Nat)=xc at*;generalize(Yp (p.take 4):Nat)=n1 at*;generalize(Yp (p.drop 4):Nat)=n2 at*;obtain⟨m3,rfl,hm3⟩:=(Qxp 4 (by omega) ⟨xa,y.b,xc,y.d⟩ ⟨x1,yb,x2,yd⟩).op (by rfl) rfl;have hm3' :∀s H,AM.callOp Qg (Qn Tp Qg) 115 2 s 170 [.agg [.int .u32 xa,.int .u32 y.b,.int .u32 xc,.int .u32 y.d],.int .i64 4] H=_:=fun s H=>hm3 115 2 s H rfl;generalize Bg 4 ⟨xa,y.b,xc,y.d⟩=z at*;obtain⟨c,d,e,f⟩:=y;simp only[wc] at*;simp only[wX,↓Qc,simprocAttr,Qaq,Qas,Zql,hT,h3,Nat.reduceBEq];refine W.done ⟨rfl,none,115,6,T,rfl,?_⟩;simp only[wX,↓Qc,simprocAttr,Qaq,Qas,Zql,hT,h3,Nat.reduceBEq,ia0,ia1,ia2,ia3,sl1,sl2,hm1',hm2',hm3',b1,b2];refine W.opsK (by kernel_rfl) ?_;simp only[wX,↓Qc,simprocAttr,Qaq,Qas,Zql,hT,h3,Nat.reduceBEq,ia0,ia1,ia2,ia3,sl1,sl2,hm1',hm2',hm3',b1,b2];refine W.opsK (by kernel_rfl) ?_;simp only[wX,↓Qc,simprocAttr,Qaq,Qas,Zql,hT,h3,Nat.reduceBEq,ia0,ia1,ia2,ia3,sl1,sl2,hm1',hm2',hm3',b1,b2];refine W.done ⟨_,_,rfl,rfl,?_⟩
    exact Zf (H:=[[(2,.cells zW),(3,.cells [.int .u32 z.a,.int .u32 z.b,.int .u32 z.c,.int .u32 z.d]),(11,.grow n),(1000006,.loop 0 none 115 6 T)],[]]) (G:=[[]]) rfl (Q27 z n T hr (.inl rfl)))
 exact h1
theorem Qg6(p:Nat->Nat->Bool):∀l:List UInt8,Qi p (Qb l)=false
 |[]=>rfl
 |b::l=>by
  have:=Qg6 p l;simp only[Qb,Zo4,Qi,V.refs,Zpa] at this⊢;exact this
theorem Qku{l:List UInt8}:∀{j:Nat},8*j<=l.length->wok (Qfb l j)
 |0,_=>(show wok ⟨1,2,3,4⟩ from⟨by decide,by decide,by decide,by decide⟩)
 |j+1,h=>Q8g (Qku (by omega)) (by simp;omega)
theorem Q4d(v:V)(l:List UInt8)(hv:Qe v l)(hl:l.length<=2097152)(m:Nat)(hm:l.length=8*m)(n:Nat)(T:List V)(hT:T.length=47)(h3:T.getD 3 .bad= .ptr 0 3 0)(hr:Qi (fun f _=>Nat.ble 1 f) T=false):
 CW Tp Qg 183 [.yield 0 1000006,.iptr [v] 0,.iptr [.int .i64 8] 0] [[(2,.cells zW),(3,.cells (wc ⟨1,2,3,4⟩)),(11,.grow n),(1000006,.loop 0 none 115 6 T)]] fun r H' =>r= .ret (.tuple [])/\H' =[[(2,.cells zW),(3,.cells (wc (Qfb l m))),(11,.grow n),(1000006,.loop 0 none 115 6 T)]]:=
 Q9a v l hv (by omega) 8 (by omega) (by omega) m hm 0 1000006 (fun j=>[[(2,.cells zW),(3,.cells (wc (Qfb l j))),(11,.grow n),(1000006,.loop 0 none 115 6 T)]]) (fun _=>rfl) (Q27 _ n T hr (.inr rfl))
  (fun j hj w hw=>Qz7 (Qfb l j) (Qku (by omega)) n T hT h3 hr w _ hw (by simp;omega))
def Xf(n:Nat):Nat:=(8-(n+1)%8)%8
noncomputable def Kk(l:List UInt8):W4:=
 let y:=Qfb (Qbj l (Xf l.length)) ((l.length+1+Xf l.length)/8)
 Bg 8 ⟨y.a,Nat.xor y.b l.length,y.c,y.d⟩
theorem Q28(v:V)(l:List UInt8)(hv:Qe v l)(hl:l.length<=1048576):Fz Tp Qg 115 [v] fun r=>r= .agg (wc (Kk l)):=by
 refine Zm Tryz.func115 rfl ?_;obtain⟨v1,hv1,hm1⟩:=(scl_fz v l hv hl).op (by rfl) (Qa (hv.frz _) rfl);have hm1' :∀s H,_:=fun s H=>hm1 115 0 s H rfl;obtain⟨v2,⟨hv2,hc2⟩,hm2⟩:=(Zep v1 l hv1 hl).op (by rfl) (Qa (hv1.frz _) rfl);have hm2' :∀s H,_:=fun s H=>hm2 115 0 s H rfl;have ez:([.int .u32 0,.int .u32 0,.int .u32 0,.int .u32 0]:List V)=zW:=rfl;have ew:([.int .u32 1,.int .u32 2,.int .u32 3,.int .u32 4]:List V)=wc ⟨1,2,3,4⟩:=rfl;have dz:zW.drop 4=[]:=rfl;have bv:By Tp 176 [(0,.int .u32 1),(1,.int .u32 2),(2,.int .u32 3),(3,.int .u32 4)]=some (.agg (wc ⟨1,2,3,4⟩)):=by kernel_rfl
 have mt:∀s,s<2000000->Qg.mt 115 s=false:=fun s h=>B2 h rfl;have sc1:∀g,Qk g 1 (.iS [.int .u8 1] 1 true)=some ([.int .u8 1],1):=fun g=>rfl;have pe:Qb l++[.int .u8 1]=Qb (Qbj l 0):=by simp[Qbj,Qb]
 have ap:Qr Tp (Qg.mt 115) 0 (Qd [[(2,.cells zW),(3,.cells (wc ⟨1,2,3,4⟩))]]) (some 11) 26 26 v2 (.iS [.int .u8 1] 1 true)=some (.val (.gS 0 11 (Qb (Qbj l 0)) (l.length+1) 1) (some (0,11,.grow (l.length+1)))):=by
  have len2:=hv2;rcases hc2 with rfl|⟨c,n,rfl⟩
  . have h0:l=[]:=by
     obtain⟨hlen,⟨_,h⟩|⟨f,h⟩⟩:=hv2
     . exact Zoz h
     . cases h
    subst h0;rw[Qcp Zu0 sz5 Qj0 zc5 rfl Zu0 (sc1 _) (by omega) (by decide),Kr (mt _ (by decide)) rfl rfl];rfl
  . obtain⟨hlen,⟨h,_⟩|⟨f,h⟩⟩:=hv2
    . cases h
    . cases h;rw[Qcf Zu0 sz5 Qj0 zc5 rfl Zu0 (sc1 _) (by omega) hlen (Zw (by omega) (by omega)),Kr (mt _ (by decide)) rfl rfl,pe]
 simp only[wX,↓Qc,simprocAttr,Tryz.ntmps115,hm1',hm2',ez,ew,mt,Qv,ap,sc_w,ln_w,Zu0,bv,ln_z,dz];refine W.ul ?_;refine W.loopS (kt:=[0,2,3,4]) rfl (fun k:Nat=>Q3q v (.ptr 0 2 0) (.ptr 0 3 0) (.gS 0 11 (Qb (Qbj l k)) (l.length+1+k) 1)) (fun k=>[[(2,.cells zW),(3,.cells (wc ⟨1,2,3,4⟩)),(11,.grow (l.length+1+k))]]) (fun k=>k<=Xf l.length) (fun k=>Xf l.length-k) ?_ 0 (Zq1 _) rfl rfl;intro k hk;have pn:Xf l.length<8:=Nat.mod_lt _ (by decide);simp only[Q3q];have lg:∀g,Ku Tp g 26 (.gS 0 11 (Qb (Qbj l k)) (l.length+1+k) 1)=some (.int .i64 ((l.length+1+k:Nat):Int)):=Q9c Zu0;have rm:∀a b,Zq Tp .rem 3 a b (.int .i64 ((l.length+1+k:Nat):Int)) (.int .i64 8)=some (.int .i64 (((l.length+1+k)%8:Nat):Int)):=fun a b=>by
  have e:((l.length+1+k:Nat):Int).tmod 8=(((l.length+1+k)%8:Nat):Int):=by rw[Int.tmod_eq_emod_of_nonneg (by omega)];omega
  rw[<-e];rfl
 by_cases h:k<Xf l.length
 . have c1:((((l.length+1+k)%8:Nat):Int) !=0)=true:=by
    have:(l.length+1+k)%8≠0:=by unfold Xf at h pn;omega
    simp only[bne_iff_ne,ne_eq];omega
   generalize hN:(l.length+1+k:Nat)=N at*;have pk:Qb (Qbj l k)++[.int .u8 0]=Qb (Qbj l (k+1)):=by rw[<-Q4b,K9];rfl
   have ap2:Qr Tp (Qg.mt 115) 0 (Qd [[(2,.cells zW),(3,.cells (wc ⟨1,2,3,4⟩)),(11,.grow N)]]) (some 18) 26 26 (.gS 0 11 (Qb (Qbj l k)) N 1) (.iS [.int .u8 0] 1 true)=some (.val (.gS 0 11 (Qb (Qbj l (k+1))) (N+1) 1) (some (0,11,.grow (N+1)))):=by rw[Qc8 Zu0 sz5 Qj0 zc5 rfl Zu0 (cs:=[.int .u8 0]) (m:=1) rfl (by omega) (Zw (by omega) (by omega)) rfl rfl rfl,pk]
   simp only[wX,↓Qc,simprocAttr,mt,Qv,lg,rm,c1,Zu0,ap2];have eN:N+1=l.length+1+(k+1):=by omega
   refine W.done ⟨k+1,?_,?_,by omega,by omega⟩
   . rw[<-eN];rfl
   . rw[<-eN]
 . have hk' :k=Xf l.length:=by omega
   subst hk';have c1:((((l.length+1+Xf l.length)%8:Nat):Int) !=0)=false:=by
    have:(l.length+1+Xf l.length)%8=0:=by unfold Xf;omega
    rw[this];rfl
   have hv3:Qe (.iS (Qb (Qbj l (Xf l.length))) (l.length+1+Xf l.length) false) (Qbj l (Xf l.length)):=by have:=Qe.mk (Qbj l (Xf l.length)) false;rwa[Qeb] at this
   have m8:l.length+1+Xf l.length=8*((l.length+1+Xf l.length)/8):=by unfold Xf;omega
   have pl:=Qeb l (Xf l.length);obtain⟨m3,rfl,hm3⟩:=(Zbf _ _ hv3 8 (by omega)).op' (args:=[.gS 0 11 (Qb (Qbj l (Xf l.length))) (l.length+1+Xf l.length) 1,.int .i64 8]) (by rfl) (Qa (Q1t _ _) rfl);have hm3' :∀s H,_:=fun s H=>hm3 115 0 s H rfl;have fe:Kk l=Bg 8 ⟨(Qfb (Qbj l (Xf l.length)) ((l.length+1+Xf l.length)/8)).a,Nat.xor (Qfb (Qbj l (Xf l.length)) ((l.length+1+Xf l.length)/8)).b l.length,(Qfb (Qbj l (Xf l.length)) ((l.length+1+Xf l.length)/8)).c,(Qfb (Qbj l (Xf l.length)) ((l.length+1+Xf l.length)/8)).d⟩:=rfl;rw[fe];generalize hN:(l.length+1+Xf l.length:Nat)=N at*;generalize Qbj l (Xf l.length)=L at*;have ok:=Qku (l:=L) (j:=N/8) (by omega);have lp:=fun T=>Q4d _ L hv3 (by omega) (N/8) (by omega) N T;generalize Qfb L (N/8)=y at*;simp only[wX,↓Qc,simprocAttr,mt,Qv,lg,rm,c1,Zu0];refine W.done ?_;simp only[wX,↓Qc,simprocAttr,mt,Qv,lg,rm,c1,Zu0,hm3'];refine W.rfunc (rid:=6) rfl rfl rfl ?_;refine(lp _ rfl rfl ?_).mono ?_
   . simp only[Qi,V.refs,hv.noRefs,Qg6];rfl
   rintro r H2 ⟨rfl,rfl⟩;refine⟨_,rfl,?_⟩;rw[Qjk (st:=0) (f:=115) (r:=6) rfl (by decide) (by simp only[Qi,V.refs,hv.noRefs,Qg6];rfl) rfl];have hH:∀T,List.modify [[(2,O.cells zW),(3,.cells (wc y)),(11,.grow N),(1000006,.loop 0 none 115 6 T)]] 0 (Ju fun x=>[Zd 6].contains x)=[[(2,.cells zW),(3,.cells (wc y)),(11,.grow N)]]:=fun T=>rfl;rw[hH];obtain⟨c,d,e,f⟩:=y;obtain⟨yc,yd,ye,yf⟩:=ok;have len:=hv.len Zu0;have cv:∀g,convertV Tp g 3 27 (.int .i64 l.length)=some (.val (.int .u32 l.length) none):=fun g=>by
    simp only[convertV,Zu3,Zu7];have:(IntKind.u32).wrap (l.length:Int)=l.length:=by rw[IntKind.wrap_u32];omega
    simp only[this]
   have ll:l.length<4294967296:=by omega
   have b1:∀a b,Zq Tp .xor 27 a b (.int .u32 d) (.int .u32 l.length)=_:=fun a b=>xorU d _ yd ll;have x1:=Qeu yd ll;simp only at x1 yc ye yf⊢;generalize(Nat.xor d l.length:Nat)=x at*;obtain⟨m4,rfl,hm4⟩:=(Qxp 8 (by omega) ⟨c,x,e,f⟩ ⟨yc,x1,ye,yf⟩).op (by rfl) rfl;have hm4' :∀s H,AM.callOp Qg (Qn Tp Qg) 115 0 s 170 [.agg [.int .u32 c,.int .u32 x,.int .u32 e,.int .u32 f],.int .i64 8] H=_:=fun s H=>hm4 115 0 s H rfl;have sz4:∀w:W4,splice zW 0 (wc w)=wc w:=fun w=>rfl;generalize Bg 8 ⟨c,x,e,f⟩=z at*;have wz:wc ⟨c,d,e,f⟩=[.int .u32 c,.int .u32 d,.int .u32 e,.int .u32 f]:=rfl;rw[wz];simp only[wX,↓Qc,simprocAttr,ia0,ia1,ia2,ia3,len,cv,b1,hm4',sc_w,ln_w,rd_w,sp_w,sp_z,ln_z,tk_w,dz];exact W.done (Q0.ret (v:= .agg (wc z)) rfl rfl rfl)
end
section
set_option maxRecDepth 100000
open Go.AM
attribute [local irreducible] U W
theorem Qgf{x y:Operand}(p q:Yb):Zq Tp .eql 31 x y (.agg p.cells) (.agg q.cells)=some (.bool (decide (p=q))):=by
 have hg:(Tp).eqGuardType (Tp).depth 31=false:=by kernel_rfl
 have hs:(Tp).stoodInHeld 31=false:=by kernel_rfl
 obtain⟨p1,p2,p3,p4,p5⟩:=p;obtain⟨q1,q2,q3,q4,q5⟩:=q;have e:decide ((⟨p1,p2,p3,p4,p5⟩:Yb)=⟨q1,q2,q3,q4,q5⟩)=(p1==q1&&(p2==q2&&(p3==q3&&(p4==q4&&p5==q5)))):=by rw[Bool.eq_iff_iff];simp
 rw[e];simp only[Yb.cells,Zq,Qis,Tryz.underlying31,hg,eqV,hs,Qdl,Qcn,Zu3,Zu7,sz3,Quu,Qn7,Qwo];have n1:("At" = "_")=False:=by decide
 have n2:("Birth" = "_")=False:=by decide
 have n3:("Iv" = "_")=False:=by decide
 have n4:("Tag" = "_")=False:=by decide
 have n5:("Sum" = "_")=False:=by decide
 simp only[n1,n2,n3,n4,n5,if_false,Zn5,List.getElem?_cons_zero,List.getElem?_cons_succ,if_true];cases p1==q1<;>cases p2==q2<;>cases p3==q3<;>cases p4==q4<;>cases p5==q5<;>rfl
theorem Qce(p:Yb):Fz Tp Qg 47 [.agg p.cells] fun x=>x= .int .i64 (okE (Qe5 p)):=by
 refine Zm Tryz.func47 rfl ?_;have e0:∀x y,Zq Tp .eql 31 x y (.agg p.cells) (.agg Bf.cells)=_:=fun x y=>Qgf p Bf;obtain⟨a,b,c,d,e⟩:=p;simp only[Yb.cells,Bf] at e0;simp only[Yb.cells];simp only[wX,↓Qc,simprocAttr,Tryz.ntmps47,e0]
 repeat' ((first|refine W.guardF ?_ ?_|refine W.guardT ?_ ?_|refine W.guardXF ?_ ?_|refine W.guardXT ?_ ?_|refine W.ite ?_ ?_|refine W.opsK1 (by kernel_rfl) ?_)<;>intro h<;>simp only[wX,↓Qc,simprocAttr,h])
 all_goals refine W.done (Q0.ret rfl rfl ?_)
 all_goals first|rfl|(simp only[okE,Qe5,Q2g,Bf, *,Yf,if_true,if_false];try rfl)
theorem Qy9(a:Int):Fz Tp Qg 157 [.int .i64 a] fun x=>x= .bool false:=by
 refine Zm Tryz.func157 rfl ?_;have e:(a !=a)=false:=by simp
 simp only[wX,↓Qc,simprocAttr,Tryz.ntmps157,e];exact W.done (Q0.ret rfl rfl rfl)
theorem Qc2(a b:Int):Fz Tp Qg 99 [.int .i64 a,.int .i64 b] fun x=>x= .int .i64 (Qdr a b):=by
 refine Zm Tryz.func99 rfl ?_;obtain⟨m,rfl,hm⟩:=(Qy9 a).op (by rfl) rfl;have hm1:∀s H,_:=fun s H=>hm 99 0 s H rfl;obtain⟨m,rfl,hm⟩:=(Qy9 b).op (by rfl) rfl;have hm2:∀s H,_:=fun s H=>hm 99 0 s H rfl;simp only[wX,↓Qc,simprocAttr,Tryz.ntmps99,hm1,hm2]
 repeat' ((first|refine W.guardF ?_ ?_|refine W.guardT ?_ ?_|refine W.guardXF ?_ ?_|refine W.guardXT ?_ ?_|refine W.ite ?_ ?_|refine W.opsK1 (by kernel_rfl) ?_)<;>intro h<;>simp only[wX,↓Qc,simprocAttr,h])
 all_goals refine W.done (Q0.ret rfl rfl ?_)
 all_goals first|rfl|(simp only[Qdr, *,Yf,if_true,if_false];try rfl)
theorem or_fz(v:V)(l:List Int)(hv:Xg v l)(hl:l.length<=1000):Fz Tp Qg 98 [v] fun x=>x= .int .i64 (Qhd l):=by
 refine Zm Tryz.func98 rfl ?_;have len:=hv.len Zu4;simp only[wX,↓Qc,simprocAttr,Tryz.ntmps98,len];refine W.ul ?_;refine W.loopS (kt:=[3,6,7,8]) rfl (fun i:Nat=>Q75 (.int .i64 0) v (.int .i64 l.length) (.int .i64 i)) (fun _=>[[]]) (fun i=>i<=l.length/\Qhd (l.drop i)=Qhd l) (fun i=>l.length-i) ?_ 0 ⟨by omega,rfl⟩ rfl rfl;rintro i ⟨hi,hR⟩;simp only[Q75];by_cases h:i<l.length
 . have c1:decide ((i:Int)<l.length)=true:=Zrh (by omega);have at1:=hv.at (k:= .i64) Zu4 sz3 (by decide) (i:=(i:Int)) (by omega) (by omega);have g1:(Qz l)[(i:Int).toNat*1]?=some (.int .i64 l[i]):=by simp[h,Qz]
   have g1' :(Qz l)[(i:Int).toNat]?=some (.int .i64 l[i]):=by simp[h,Qz]
   have w1:(IntKind.i64).wrap ((i:Int)+1)=((i+1:Nat):Int):=by rw[wrap_i64]<;>omega
   have hd:Qhd (l.drop i)=if l[i] !=0 then l[i] else Qhd (l.drop (i+1)):=by rw[Zqt h];rfl
   simp only[wX,↓Qc,simprocAttr,c1,at1,rd3,g1,g1'];refine W.ite ?_ ?_<;>intro h2<;>simp only[wX,↓Qc,simprocAttr,w1]
   . refine W.done ?_;simp only[wA,↓Qc,simprocAttr];refine W.done (Q0.ret rfl rfl ?_);rw[<-hR,hd,h2];rfl
   . refine W.done ⟨i+1,rfl,rfl,⟨by omega,?_⟩,by omega⟩;rw[<-hR,hd,h2];rfl
 . have c1:decide ((i:Int)<l.length)=false:=Zri (by omega);simp only[wA,↓Qc,simprocAttr,c1];refine W.done ?_;simp only[wA,↓Qc,simprocAttr];refine W.done (Q0.ret rfl rfl ?_);rw[<-hR,Zqe (by omega)];rfl
theorem Qun(p q:Yb):Fz Tp Qg 161 [.agg p.cells,.agg q.cells] fun x=>x= .int .i64 (Qdr p.at_ q.at_):=by refine Zm Tryz.func161 rfl ?_;obtain⟨a,b,c,d,e⟩:=p;obtain⟨a',b',c',d',e'⟩:=q;simp only[Yb.cells];obtain⟨m,rfl,hm⟩:=(Qc2 a a').op (by rfl) rfl;have hm1:∀s H,_:=fun s H=>hm 161 0 s H rfl;simp only[wX,↓Qc,simprocAttr,Tryz.ntmps161,hm1];exact W.done (Q0.ret rfl rfl rfl)
theorem bv5:By Tp 241 [(0,V.int .i64 1),(1,.int .i64 3),(2,.int .i64 4),(3,.int .i64 4),(4,.int .i64 4)]=some (.agg [.int .i64 1,.int .i64 3,.int .i64 4,.int .i64 4,.int .i64 4]):=by kernel_rfl
theorem Q72:Fz Tp Qg 167 [] fun x=>x= .agg [.int .i64 1,.int .i64 3,.int .i64 4,.int .i64 4,.int .i64 4]:=by refine Zm Tryz.func167 rfl ?_;simp only[wX,↓Qc,simprocAttr,Tryz.ntmps167,bv5];exact W.done (Q0.ret (v:= .agg [.int .i64 1,.int .i64 3,.int .i64 4,.int .i64 4,.int .i64 4]) rfl rfl rfl)
theorem by27:byt Tp 26=some 24:=by kernel_rfl
theorem by8:byt Tp 5=some 1:=by kernel_rfl
theorem by64:byt Tp 3=some 8:=by kernel_rfl
def Ke(k:Nat)(i:Nat):List V:=(List.range i).map fun j=> .mS k 20 (256*j) 256 (some 256) 1
theorem Q0h(k i:Nat):Ke k (i+1)=Ke k i++[.mS k 20 (256*i) 256 (some 256) 1]:=by simp[Ke,Zq3]
theorem Qrk(k i:Nat)(p:Nat->Nat->Bool)(h:p k 20=false):Qi p (Ke k i)=false:=by
 have:∀l:List Nat,Qi p (l.map fun j=>V.mS k 20 (256*j) 256 (some 256) 1)=false:=by
  intro l
  induction l with
  |nil=>rfl
  |cons j l ih=>simp only[Zo4,Qi,V.refs,h,ih,Zqs]
 exact this _
def Qo6(k i:Nat):V:= .mS k 20 (if i<256 then 256*i else 65280) (65536-256*i) (some (65536-256*i)) 1
theorem Qh1{K:Heap}(hw:WF K){p:Nat->Nat->Bool}(hp:∀f s,p f s=true->K.length<=f):Q2 p K=true:=by refine Xm (fun f s h=>?_) K hw;simp only[Nat.ble_eq];exact hp f s h
def Qv5(k i:Nat):V:=if i=0 then .nS else .gS k 33 (Ke k i) i 1
def frM(Z:List V)(i:Nat):AM.Frame:=if i=0 then[(20,.cells Z)] else[(20,.cells Z),(33,.grow i)]
def Q1w(Z:List V)(x:V)(i:Nat):AM.Frame:=if i=0 then[(20,.cells Z)] else[(20,.cells Z),(32,.cells [x]),(33,.grow i)]
theorem Zdl(Z:List V)(x:V)(i:Nat):Ju (fun s=>[32].contains s) (Q1w Z x i)=frM Z i:=by unfold frM Q1w;split<;>rfl
theorem cut_nn{P:Program}{u e:TypeId}(hu:P.underlying u=some (.slice e)){q:Nat}(hs:sz P e=some q){g:Get}{f s o len c n:Nat}{k:IntKind}(h:n<=c):
 Zn P g u (.mS f s o len (some c) q) none (some (.int k n)) (some (.int k n))=some (.mS f s o n (some n) q):=by
 simp only[Zn,Jt,hu,hs,if_true,Qjg,Xh,Zo0,Zpb];rw[if_pos ⟨by omega,by omega,by omega,by omega,by omega,by omega,by simp⟩];simp
theorem Zb2(K:Heap)(Z:List V)(i:Nat)(hi:i<256)(x:V)(hx:x.scalar=true):
 Qr Tp (Qg.mt 116) K.length (Qd (K++[Kq (frM Z i) 32 (.cells [x])])) (some 33) 22 22 (Qv5 K.length i) (.mS K.length 32 0 1 (some 1) 1)=
  some (.val (if i=0 then .gS K.length 33 [x] 1 1 else .gS K.length 33 (Ke K.length i++[x]) (i+1) 1) (some (K.length,33,.grow (i+1)))):=by
 have g32:Qd (K++[Kq (frM Z i) 32 (.cells [x])]) K.length 32=some (.cells [x]):=by rw[J9];show Xx (Kq (frM Z i) 32 _) 32=_;rw[Qcy];rfl
 have g33:Qd (K++[Kq (frM Z i) 32 (.cells [x])]) K.length 33=if i=0 then none else some (.grow i):=by
  rw[J9];show Xx (Kq (frM Z i) 32 _) 33=_;rw[Qcy,if_neg (by decide)];unfold frM;by_cases h:i=0
  . simp only[h,if_true];rfl
  . simp only[h,if_false];rfl
 have sc:Qk (Qd (K++[Kq (frM Z i) 32 (.cells [x])])) 1 (.mS K.length 32 0 1 (some 1) 1)=some ([x],1):=by simp only[Qk,g32];rfl
 have hsc:([x]:List V).all V.scalar=true:=by simp[hx]
 unfold Qv5;by_cases h:i=0
 . subst h;simp only[if_true] at g33⊢;rw[Qcp Zu1 Qau by27 Qmr rfl Zu1 sc (by decide) (by decide)];simp[grown,(B2 (by decide) rfl:Qg.mt 116 33=false),new,g33]
 . simp only[h,if_false] at g33⊢;have hr:J4 (i+1) 24=true:=Zw (by omega) (by omega);simp only[Qr,Zu1,Qau,by27,Qmr,Ji,sc,appendTo,hr,hsc,g33,Zp9,Zpt,if_true,and_self]
theorem Qnx(p:Nat->Nat->Bool)(z:List V)(n:Nat)(h:Qi p z=false):Qi p (zerosN z n)=false:=by
 induction n with
 |zero=>rfl
 |succ n ih=>
  have app:∀a b:List V,Qi p a=false->Qi p b=false->Qi p (a++b)=false:=by
   intro a b ha hb
   induction a with
   |nil=>exact hb
   |cons x a iha=>simp only[Qi,Zo8,Zox] at ha⊢;exact⟨ha.1,iha ha.2⟩
  exact app _ _ h ih
theorem Q7j(K:Heap)(hw:WF K)(v:V)(L:List Int)(hl:L.length=256)(hL:∀i,i<256->L[i]?=some 256)(hv:Xg v L):
 CW Tp Qg 116 [v] K fun r K' =>r= .ret (.gS K.length 33 (Ke K.length 256) 256 1)/\K' =K++[[(20,.cells (zerosN [.int .u8 0] 65536)),(33,.grow 256)]]:=by
 refine Zu Tryz.func116 rfl ?_;have len:=hv.len Zu4;rw[hl] at len;have at0:∀i:Nat,i<256->Qm Tp 32 v (.int .i64 i)=some (.iptr (Qz L) ((i:Int).toNat*1)):=fun i h=>by exact hv.at Zu4 sz3 (by decide) (by omega) (by rw[hl];omega)
 have get0:∀i:Nat,i<256->(Qz L)[(i:Int).toNat*1]?=some (.int .i64 256):=fun i h=>by rw[Q2m];simp[hL i h]
 simp only[wS,simprocAttr,Tryz.ntmps116,len];refine W.ul ?_;refine W.loopS (kt:=[0,2,3,9,10,11]) rfl (fun i:Nat=>Q31 v .nS (.int .i64 ((256*i:Nat):Int)) v (.int .i64 ((256:Nat):Int)) (.int .i64 i)) (fun _=>K++[[]]) (fun i=>i<=256) (fun i=>256-i) ?_ 0 (by omega) rfl rfl;rintro i hi;simp only[Q31];by_cases h:i<256
 . have c1:decide ((i:Int)<((256:Nat):Int))=true:=Zrh (by omega);have w1:=Qao (i:=i) (by omega);have w2:(IntKind.i64).wrap (((256*i:Nat):Int)+256)=((256*(i+1):Nat):Int):=by rw[wrap_i64]<;>omega
   simp only[Qmi,Qey,Qfg,Zv,Zk,Kf,nov,gd,rho,Q1,wr,Nat.reduceAdd,Nat.reduceSub,if_true,if_false,reduceIte,reduceCtorEq,Nat.reduceLT,Nat.reduceEqDiff,Nat.reduceMul,Nat.reduceLeDiff,c1,at0 i h,rd3,get0 i h,w1,w2];exact W.done ⟨i+1,rfl,rfl,by omega,by omega⟩
 . have c1:decide ((i:Int)<((256:Nat):Int))=false:=Zri (by omega);have hi2:i=256:=by omega
   subst hi2;simp only[wS,simprocAttr,c1];refine W.done ?_;have e1:((256*256:Nat):Int)=65536:=rfl;have rm:J4 65536 1=true:=by decide
   generalize hZ:zerosN [V.int .u8 0] 65536=Z;have hZ' :zerosN [V.int .u8 0] (65536:Int).toNat=Z:=hZ;simp only[wS,simprocAttr,e1,Zu0,sz5,by8,zc5,Int.reduceLE,Int.reduceToNat,rm,and_self,wG,len,hZ,hZ'];refine W.ul ?_;have hk32:∀i,(Qv5 K.length i).refs (fun f s=>f==K.length&&[32].contains s)=false:=by
    intro i;unfold Qv5;split
    . rfl
    . have:=Qrk K.length i (fun f s=>f==K.length&&[32].contains s) (by simp);simp only[V.refs,this];simp
   refine W.loop (fun(i:Nat) t H=>∃x:V,Jg [2,6,21,22,23] t 0=Qvz (Qv5 K.length i) (Qo6 K.length i) v (.int .i64 ((256:Nat):Int)) (.int .i64 i)/\i<=256/\H=K++[Q1w Z x i]/\x.refs (fun f s=>f==K.length&&[32].contains s)=false)
    (fun i=>256-i) ?_ 0 ⟨.bad,rfl,by omega,rfl,rfl⟩ rfl
   rintro i t H ⟨x,ht,hi,rfl,hx⟩;have vr:v.refs (fun f s=>f==K.length&&[32].contains s)=false:=hv.noRefs _;have zr:Qi (fun f s=>f==K.length&&[32].contains s) Z=false:=by rw[<-hZ];exact Qnx _ _ _ rfl
   have hd:(K++[Q1w Z x i]).modify K.length (Ju fun s=>[32].contains s)=K++[frM Z i]:=by have:=Qdi (Ju fun s=>[32].contains s) K [Q1w Z x i] 0;rw[Zq0] at this;rw[this,<-Zdl Z x i];rfl
   refine⟨_,_,Z7 (kt:=[2,6,21,22,23]) (ds:=[32]) rfl ?_ ?_,?_⟩
   . rw[ht];simp only[Qvz,Qi,V.refs,hk32 i,vr,Qo6];simp
   . rw[hd,Zs,Qh1 hw (fun f s h=>by simp at h;omega)];unfold frM;split<;>simp only[Q2,Zg,O.refs,zr]<;>rfl
   rw[ht,hd];simp only[Qvz];by_cases h:i<256
   . have c1:decide ((i:Int)<((256:Nat):Int))=true:=Zrh (by omega);have w1:=Qao (i:=i) (by omega);have rs:Qo6 K.length i= .mS K.length 20 (256*i) (65536-256*i) (some (65536-256*i)) 1:=by simp only[Qo6,h,if_true]
     have rs2:V.mS K.length 20 (if 65536-256*i=256 then 256*i else 256*i+256*1) (65536-256*i-256) (some (65536-256*i-256)) 1=Qo6 K.length (i+1):=by
      unfold Qo6;have e1:65536-256*i-256=65536-256*(i+1):=by omega
      rw[e1];congr 1;by_cases h2:i=255
      . subst h2;rfl
      . rw[if_neg (by omega),if_pos (by omega)];omega
     have sl1:∀g,Zn Tp g 26 (.mS K.length 20 (256*i) (65536-256*i) (some (65536-256*i)) 1) none (some (.int .i64 256)) (some (.int .i64 256))=some (.mS K.length 20 (256*i) 256 (some 256) 1):=
      fun g=>cut_nn (n:=256) Zu0 sz5 (by omega)
     have sl2:∀g,Zn Tp g 26 (.mS K.length 20 (256*i) (65536-256*i) (some (65536-256*i)) 1) (some (.int .i64 256)) none none=some (Qo6 K.length (i+1)):=fun g=>by rw[<-rs2];exact Qy2 (w:=256) Zu0 sz5 (by omega) (by omega) g
     have n32:Qd (K++[frM Z i]) K.length 32=none:=by rw[J9];show Xx (frM Z i) 32=none;unfold frM;split<;>rfl
     have s32:∀o,hset (K++[frM Z i]) K.length 32 o=K++[Kq (frM Z i) 32 o]:=fun o=>X9 _ _ _ _;have s33:∀y,hset (K++[Kq (frM Z i) 32 (.cells [y])]) K.length 33 (.grow (i+1))=K++[Q1w Z y (i+1)]:=fun y=>by rw[X9];show K++[Kq (Kq (frM Z i) 32 _) 33 _]=_;unfold frM Q1w;rw[if_neg (Zq4 i)];split<;>rfl
     have ap:=Zb2 K Z i h (.mS K.length 20 (256*i) 256 (some 256) 1) rfl;have eo:(if i=0 then V.gS K.length 33 [.mS K.length 20 (256*i) 256 (some 256) 1] 1 1 else .gS K.length 33 (Ke K.length i++[.mS K.length 20 (256*i) 256 (some 256) 1]) (i+1) 1)=Qv5 K.length (i+1):=by
      unfold Qv5;rw[if_neg (Zq4 i),Q0h];by_cases h0:i=0
      . subst h0;rfl
      . rw[if_neg h0]
     rw[eo] at ap;have mt32:Qg.mt 116 32=true:=rfl;have get1:(Qz L)[(i:Int).toNat]?=some (.int .i64 256):=by have:=get0 i h;rwa[Zof] at this
     rw[rs];simp only[Qmi,Qey,Qfg,Zv,Zk,Kf,nov,gd,rho,Q1,wr,Nat.reduceAdd,Nat.reduceSub,if_true,if_false,reduceIte,reduceCtorEq,Nat.reduceLT,Nat.reduceEqDiff,Nat.reduceMul,Nat.reduceLeDiff,c1,at0 i h,rd3,get0 i h,get1,w1,sl1,sl2,Zu1,Qau,Qmr,mt32,new,n32,s32,Qv,ap,s33,wB];exact W.done ⟨i+1,⟨_,rfl,by omega,rfl,by simp[V.refs]⟩,by omega⟩
   . have c1:decide ((i:Int)<((256:Nat):Int))=false:=Zri (by omega);have hi2:i=256:=by omega
     subst hi2;simp only[wS,simprocAttr,c1];refine W.done ?_;simp only[wS,simprocAttr];refine W.done (End.ret (v:=Qv5 K.length 256) rfl ?_);rw[Zj (by simp[Qv5,V.refs])];exact⟨rfl,rfl⟩
def Qiz:V->Bool
 | .int _ _=>true
 |_=>false
def Jv(c:List V):Prop:=c.length=256/\c.all Qiz=true
theorem Quq{x:V}(h:Qiz x=true):x.scalar=true:=by cases x<;>first|rfl|cases h
theorem Qn0{c:List V}(h:c.all Qiz=true):c.all V.scalar=true:=by rw[Zor] at h⊢;exact fun x hx=>Quq (h x hx)
theorem Qtu(p:Nat->Nat->Bool):∀{c:List V},c.all Qiz=true->Qi p c=false
 |[],_=>rfl
 |x::c,h=>by
  simp only[Zqn,Zok] at h;simp only[Qi,Qtu p h.2,Zqr];cases x<;>first|rfl|(cases h.1)
theorem Zbh(K:Heap)(c:List V)(fl:Bool)(hc:Jv c):
 CW Tp Qg 45 [.iS c 256 fl] K fun r K' =>r= .ret (.mS K.length 7 0 256 none 1)/\K' =K++[[(5,.cells []),(7,.cells c)]]:=by
 refine Zu Tryz.func45 rfl ?_;have nn:=Jj (P:=Tp) (t:=26) Zu0 (x:= .tmp 3) (y:= .const (.slice none 0 0)) (cs:=c) (n:=256) (f:=fl);have mt5:Qg.mt 45 5=true:=rfl;have mt7:Qg.mt 45 7=true:=rfl;have sc:∀g,Qk g 1 (.iS c 256 fl)=some (c,256):=fun g=>by simp[Qk,hc.1]
 have s5:hset (K++[[]]) K.length 5 (.cells [])=K++[[(5,.cells [])]]:=by rw[X9];rfl
 have n5:Qd (K++[[]]) K.length 5=none:=by rw[J9];rfl
 have n7:Qd (K++[[(5,O.cells [])]]) K.length 7=none:=by rw[J9];rfl
 have g5:Qd (K++[[(5,O.cells [])]]) K.length 5=some (.cells []):=by rw[J9];rfl
 have ap:Qr Tp (Qg.mt 45) K.length (Qd (K++[[(5,O.cells [])]])) (some 7) 26 26 (.mS K.length 5 0 0 (some 0) 1) (.iS c 256 fl)=some (.val (.mS K.length 7 0 256 none 1) (some (K.length,7,.cells c))):=by simp only[Qr,Zu0,sz5,by8,zc5,Ji,sc,appendTo,g5];simp[grown,mt7,new,n7,Qn0 hc.2,J4]
 have s7:hset (K++[[(5,O.cells [])]]) K.length 7 (.cells c)=K++[[(5,.cells []),(7,.cells c)]]:=by rw[X9];rfl
 simp only[wS,simprocAttr,Zu12,nn,mt5,new,n5,s5,Qv,ap,s7,Zu0,sz5,zc5,wB];refine W.done (End.ret (v:= .mS K.length 7 0 256 none 1) rfl ?_);rw[Zj (by simp[V.refs])];exact⟨rfl,rfl⟩
theorem Qdk(g:Get)(n:Nat):∀{c:List V},c.all Qiz=true->Q5 (frz g (n+1)) c=some c
 |[],_=>rfl
 |x::c,h=>by
  simp only[Zqn,Zok] at h;have hx:frz g (n+1) x=some x:=by cases x<;>first|rfl|(cases h.1)
  simp only[Q5,hx,Qdk g n h.2]
theorem Qbt{g:Get}{f s o len esz m:Nat}{cap:Option Nat}{xs:List V}(hg:g f s=some (.cells xs))(hl:o+len*esz<=xs.length)(hx:Q5 (frz g (m+1)) ((xs.drop o).take (len*esz))=some ((xs.drop o).take (len*esz))):
 frz g (m+2) (.mS f s o len cap esz)=some (.iS ((xs.drop o).take (len*esz)) len (cap==some len)):=by
 have e:frz g (m+2) (.mS f s o len cap esz)=(match g f s with
  |some (.cells xs)=>if o+len*esz<=xs.length then(Q5 (frz g (m+1)) ((xs.drop o).take (len*esz))).map fun cs=> .iS cs len (cap==some len) else none
  |_=>none):=rfl
 rw[e,hg];simp only[hl,if_true,hx,Zn2]
theorem Q8o(c:List V)(fl:Bool)(hc:Jv c):Fz Tp Qg 45 [.iS c 256 fl] fun r=>r= .iS c 256 false:=by
 refine Fz.of_cw ((Zbh [] c fl hc).mono ?_);rintro r H' ⟨rfl,rfl⟩;have e:(c.drop 0).take (256*1)=c:=by rw[Zpe,Zpf (Nat.le_of_eq hc.1)]
 have hf:=Qbt (g:=Qd ([]++[[(5,O.cells []),(7,O.cells c)]])) (f:=0) (s:=7) (o:=0) (len:=256) (esz:=1) (cap:=none) (xs:=c) (m:=10) rfl (by rw[hc.1];exact Zn6 _) (by rw[e];exact Qdk _ _ hc.2);exact⟨_,rfl,_,hf,by rw[e];rfl⟩
structure Qo9(K:Heap)(bv:V)(r:Nat->List V):Prop where
 len:∀g,Ku Tp g 22 bv=some (.int .i64 256)
 ex:∃p q:Nat->V,(∀i:Nat,i<256->Qm Tp 22 bv (.int .i64 (i:Int))=some (p i))/\(∀i,i<256->∀G,ldV Tp 26 (Qd (K++G)) (p i)=some (q i))/\∀i,i<256->∃fl,q i= .iS (r i) 256 fl
 rows:∀i,i<256->Jv (r i)
 refs:bv.refs (fun f _=>Nat.ble K.length f)=false
 cells:bv.cells=some [bv]
 sc:bv.scalar=true
end
end Go.Proofs.YtjllfbejpjonnaaGreatDoor
