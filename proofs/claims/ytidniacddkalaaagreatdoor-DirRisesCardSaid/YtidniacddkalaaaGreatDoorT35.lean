/- This file holds in one the texts DS, DS2, DI, DJ, F9; each says at its head what it proves. -/
import Derived.Test.YtidniacddkalaaaGreatDoorT23
import Derived.Test.YtidniacddkalaaaGreatDoorT25
import Derived.Test.YtidniacddkalaaaGreatDoorT29
import Derived.Test.YtidniacddkalaaaGreatDoorT30
import Derived.Test.YtidniacddkalaaaGreatDoorT33
import Derived.Test.YtidniacddkalaaaGreatDoorT34
set_option linter.unusedSimpArgs false
set_option linter.unusedVariables false
namespace Go.Proofs.YtidniacddkalaaaGreatDoor
section
set_option maxRecDepth 100000
open Go.AM Go.AM.BM
attribute [local irreducible] U W
theorem Q39(n:Nat):(IntKind.u32).wrap (n:Int)=((n%4294967296:Nat):Int):=by simp[IntKind.wrap,IntKind.bits,IntKind.signed]
theorem Qve(n:Nat)(h:n<4294967296):(BitVec.ofInt 32 (n:Int)).toNat=n:=by simp[BitVec.toNat_ofInt];omega
theorem addU(a b:Nat):Qfa .add .u32 a b=some (.int .u32 (Qc8 a b:Nat)):=by
 have:((a:Int)+b)=((a+b:Nat):Int):=by omega
 simp only[Qfa];rw[this,Q39];rfl
theorem xorU(a b:Nat)(ha:a<4294967296)(hb:b<4294967296):Qfa .xor .u32 a b=some (.int .u32 (Nat.xor a b:Nat)):=by
 have e:(BitVec.ofInt (IntKind.u32).bits (a:Int)^^^BitVec.ofInt (IntKind.u32).bits (b:Int)).toNat=Nat.xor a b:=by show(BitVec.ofInt 32 (a:Int)^^^BitVec.ofInt 32 (b:Int)).toNat=_;rw[BitVec.toNat_xor,Qve a ha,Qve b hb];rfl
 have l:Nat.xor a b<4294967296:=Nat.xor_lt_two_pow (n:=32) ha hb;simp only[Qfa];rw[e,Q39,Nat.mod_eq_of_lt l]
theorem orU(a b:Nat)(ha:a<4294967296)(hb:b<4294967296):Qfa .or .u32 a b=some (.int .u32 (Nat.lor a b:Nat)):=by
 have e:(BitVec.ofInt (IntKind.u32).bits (a:Int)|||BitVec.ofInt (IntKind.u32).bits (b:Int)).toNat=Nat.lor a b:=by show(BitVec.ofInt 32 (a:Int)|||BitVec.ofInt 32 (b:Int)).toNat=_;rw[BitVec.toNat_or,Qve a ha,Qve b hb];rfl
 have l:Nat.lor a b<4294967296:=Nat.or_lt_two_pow (n:=32) ha hb;simp only[Qfa];rw[e,Q39,Nat.mod_eq_of_lt l]
theorem shlU(a k:Nat)(hk:k<32):Qen .shl .u32 a k=some (.int .u32 (Nat.mod (Nat.shiftLeft a k) 4294967296:Nat)):=by
 have e:min (k:Int).toNat (IntKind.u32).bits=k:=by have:(k:Int).toNat=k:=rfl;rw[this];show min k 32=k;omega
 have e2:(a:Int)*2^k=((Nat.shiftLeft a k:Nat):Int):=by show _=((a<<<k:Nat):Int);rw[Nat.shiftLeft_eq];simp
 simp only[Qen,e,e2,Q39];rw[if_neg (by omega)];rfl
theorem shrU(a k:Nat)(hk:k<32):Qen .shr .u32 a k=some (.int .u32 (Nat.shiftRight a k:Nat)):=by
 have e:min (k:Int).toNat (IntKind.u32).bits=k:=by have:(k:Int).toNat=k:=rfl;rw[this];show min k 32=k;omega
 have e2:(a:Int).fdiv (2^k)=((Nat.shiftRight a k:Nat):Int):=by show _=((a>>>k:Nat):Int);rw[Nat.shiftRight_eq_div_pow,Int.fdiv_eq_ediv_of_nonneg _ (Int.le_of_lt (Int.pow_pos (by decide)))];simp
 simp only[Qen,e,e2];rw[if_neg (by omega)]
theorem Q1w(x k:Nat)(hx:x<4294967296):Qg2 x k<4294967296:=by
 have a:Nat.mod (Nat.shiftLeft x k) 4294967296<4294967296:=Nat.mod_lt _ (by decide);have b:Nat.shiftRight x (32-k)<4294967296:=by have:Nat.shiftRight x (32-k)=x>>>(32-k):=rfl;rw[this,Nat.shiftRight_eq_div_pow];exact Nat.lt_of_le_of_lt (Nat.div_le_self _ _) hx
 exact Nat.or_lt_two_pow (n:=32) a b
theorem Za1(x k:Nat)(hx:x<4294967296)(hk:k=15\/k=11\/k=9\/k=6):Fz Tryz.prog Qg 234 [.int .u32 x,.int .i64 k] fun r=>r= .int .u32 (Qg2 x k:Nat):=by
 refine Qw Tryz.func234 rfl ?_;have k32:k<32:=by omega
 have cv:∀g,convertV Tryz.prog g 3 160 (.int .i64 k)=some (.val (.int .u64 k) none):=fun g=>by rcases hk with rfl|rfl|rfl|rfl<;>kernel_rfl
 have bA:∀p q,Zp Tryz.prog .and 160 p q (.int .u64 k) (.int .u64 31)=some (.int .u64 k):=fun p q=>by rcases hk with rfl|rfl|rfl|rfl<;>rfl
 have bS:∀p q,Zp Tryz.prog .sub 160 p q (.int .u64 32) (.int .u64 k)=some (.int .u64 ((32-k:Nat):Int)):=fun p q=>by rcases hk with rfl|rfl|rfl|rfl<;>rfl
 have b1:∀p q,Zp Tryz.prog .shl 27 p q (.int .u32 x) (.int .u64 k)=_:=fun p q=>shlU x k k32;have b2:∀p q,Zp Tryz.prog .shr 27 p q (.int .u32 x) (.int .u64 ((32-k:Nat):Int))=_:=fun p q=>shrU x (32-k) (by omega);have b3:∀p q,Zp Tryz.prog .or 27 p q (.int .u32 (Nat.mod (Nat.shiftLeft x k) 4294967296:Nat)) (.int .u32 (Nat.shiftRight x (32-k):Nat))=_:=fun p q=>orU _ _ (Nat.mod_lt _ (by decide)) (by
  have:Nat.shiftRight x (32-k)=x>>>(32-k):=rfl;rw[this,Nat.shiftRight_eq_div_pow]
  exact Nat.lt_of_le_of_lt (Nat.div_le_self _ _) hx)
 generalize hr:(Nat.lor _ _:Nat)=r at b3;have er:Qg2 x k=r:=hr;rw[er];generalize(Nat.mod (Nat.shiftLeft x k) 4294967296:Nat)=u at b1 b3;generalize(Nat.shiftRight x (32-k):Nat)=w at b2 b3;generalize(32-k:Nat)=m at bS b2;simp only[wA,↓Qc,simprocAttr,Tryz.ntmps234,ta,wH,wB,cv,bA,bS,b1,b2,b3];exact W.done (Qk.ret rfl rfl rfl)
def u32(n:Nat):V:= .int .u32 n
def wc(x:W4):List V:=[.int .u32 x.a,.int .u32 x.b,.int .u32 x.c,.int .u32 x.d]
def zW:List V:=[.int .u32 0,.int .u32 0,.int .u32 0,.int .u32 0]
def wok(x:W4):Prop:=x.a<4294967296/\x.b<4294967296/\x.c<4294967296/\x.d<4294967296
theorem Qqe{α:Type}(x:Nat)(k:Nat->α):Qi2 x k=k x:=by unfold Qi2;cases x<;>rfl
theorem Qxe(far near:Nat)(x:W4):Qhx far near x=⟨Qc8 x.a x.b,Qg2 (Nat.xor x.b (Qc8 x.c (Qg2 (Nat.xor x.d (Qc8 x.a x.b)) far))) near,Qc8 x.c (Qg2 (Nat.xor x.d (Qc8 x.a x.b)) far),Qg2 (Nat.xor x.d (Qc8 x.a x.b)) far⟩:=by unfold Qhx;simp only[Qqe]
theorem Qb1(a b:Nat):Qc8 a b<4294967296:=Nat.mod_lt _ (by decide)
theorem Qes{a b:Nat}(ha:a<4294967296)(hb:b<4294967296):Nat.xor a b<4294967296:=Nat.xor_lt_two_pow (n:=32) ha hb
theorem Qqx{far near:Nat}{x:W4}(h:wok x):wok (Qhx far near x):=by obtain⟨ha,hb,hc,hd⟩:=h;rw[Qxe];have h1:=Q1w _ far (Qes hd (Qb1 x.a x.b));exact⟨Qb1 _ _,Q1w _ _ (Qes hb (Qb1 _ _)),Qb1 _ _,h1⟩
theorem ia0(f s:Nat):Qm Tryz.prog 201 (.ptr f s 0) (.int .i64 0)=some (.ptr f s 0):=by simp only[Qm,Tryz.underlying201,Qtd];rfl
theorem ia1(f s:Nat):Qm Tryz.prog 201 (.ptr f s 0) (.int .i64 1)=some (.ptr f s 1):=by simp only[Qm,Tryz.underlying201,Qtd];rfl
theorem ia2(f s:Nat):Qm Tryz.prog 201 (.ptr f s 0) (.int .i64 2)=some (.ptr f s 2):=by simp only[Qm,Tryz.underlying201,Qtd];rfl
theorem ia3(f s:Nat):Qm Tryz.prog 201 (.ptr f s 0) (.int .i64 3)=some (.ptr f s 3):=by simp only[Qm,Tryz.underlying201,Qtd];rfl
theorem Q4g(far near:Nat)(hf:far=15\/far=11\/far=9\/far=6)(hn:near=15\/near=11\/near=9\/near=6)(x:W4)(hx:wok x):
 CW Tryz.prog Qg 233 [.int .i64 far,.int .i64 near,.ptr 0 1 0] [[(1,.cells (wc x)),(2,.cells zW)]] fun r H' =>r= .ret (.tuple [])/\H' =[[(1,.cells (wc (Qhx far near x))),(2,.cells zW)]]:=by
 refine Kb Tryz.func233 rfl ?_;obtain⟨a,b,c,d⟩:=x;obtain⟨ha,hb,hc,hd⟩:=hx;simp only at ha hb hc hd;have bA:∀p q (x y:Nat),Zp Tryz.prog .add 27 p q (.int .u32 x) (.int .u32 y)=some (.int .u32 (Qc8 x y:Nat)):=fun p q x y=>addU x y;have x1:∀p q,Zp Tryz.prog .xor 27 p q (.int .u32 d) (.int .u32 (Qc8 a b:Nat))=_:=fun p q=>xorU d _ hd (Qb1 _ _);have l1:=Qes hd (Qb1 a b);rw[Qxe];simp only[wc] at*;generalize(Nat.xor d (Qc8 a b):Nat)=d1 at*;obtain⟨m,rfl,hm⟩:=(Za1 d1 far l1 hf).op (by rfl) rfl;have hm' :∀s H,_:=fun s H=>hm 233 1 s H rfl;have l2:=Q1w d1 far l1;generalize(Qg2 d1 far:Nat)=d2 at*;have x2:∀p q,Zp Tryz.prog .xor 27 p q (.int .u32 b) (.int .u32 (Qc8 c d2:Nat))=_:=fun p q=>xorU b _ hb (Qb1 _ _);have l3:=Qes hb (Qb1 c d2);generalize(Nat.xor b (Qc8 c d2):Nat)=b1 at*;obtain⟨m2,rfl,hm2⟩:=(Za1 b1 near l3 hn).op (by rfl) rfl;have hm2' :∀s H,_:=fun s H=>hm2 233 1 s H rfl;generalize(Qg2 b1 near:Nat)=b2 at*;simp only[wA,↓Qc,simprocAttr,Tryz.ntmps233,ta,wH,wB,ia0,ia1,ia2,ia3,bA,x1,x2,hm',hm2'];exact W.done (End.normal (v:= .tuple []) rfl ⟨rfl,rfl⟩)
theorem sc_w(x:W4):(wc x).all V.scalar=true:=rfl
theorem ln_w(x:W4):(wc x).length=4:=rfl
theorem rd_w(x:W4):Qn Tryz.prog 201 (wc x) 0=some (.agg (wc x)):=by rw[rd201];rfl
theorem sp_w(x y:W4):splice (wc x) 0 (wc y)=wc y:=rfl
theorem sp_z(y:W4):splice zW 0 (wc y)=wc y:=rfl
theorem tk_w(x:W4):(wc x).take 4=wc x:=rfl
theorem ln_z:zW.length=4:=rfl
theorem Q6v(x:W4)(hx:wok x):Fz Tryz.prog Qg 206 [.agg (wc x)] fun r=>r= .agg (wc (Qie x)):=by refine Qw Tryz.func206 rfl ?_;obtain⟨r1,K1,e1,rfl,rfl⟩:=Q4g 15 11 (by omega) (by omega) x hx;obtain⟨r2,K2,e2,rfl,rfl⟩:=Q4g 9 6 (by omega) (by omega) _ (Qqx (far:=15) (near:=11) hx);have c1:∀s,AM.callOp Qg (Qp Tryz.prog Qg) 206 0 s 233 [.int .i64 15,.int .i64 11,.ptr 0 1 0] [[(1,.cells (wc x)),(2,.cells zW)]]=_:=fun s=>K0 rfl rfl rfl e1;have c2:∀s,AM.callOp Qg (Qp Tryz.prog Qg) 206 0 s 233 [.int .i64 9,.int .i64 6,.ptr 0 1 0] [[(1,.cells (wc (Qhx 15 11 x))),(2,.cells zW)]]=_:=fun s=>K0 rfl rfl rfl e2;have ez:([.int .u32 0,.int .u32 0,.int .u32 0,.int .u32 0]:List V)=zW:=rfl;have et:Qie x=Qhx 9 6 (Qhx 15 11 x):=rfl;rw[et];simp only[wA,↓Qc,simprocAttr,Tryz.ntmps206,ta,wH,wB,c1,c2,ez,sc_w,ln_w,rd_w,sp_w,sp_z,ln_z,tk_w];exact W.done (Qk.ret (v:= .agg (wc (Qhx 9 6 (Qhx 15 11 x)))) rfl rfl rfl)
theorem Qqr{x:W4}(h:wok x):wok (Qie x):=Qqx (Qqx h)
theorem Qxg(n:Nat)(x:W4):Bd (n+1) x=Bd n (Qie x):=rfl
theorem Qma:∀(n:Nat) {x:W4},wok x->wok (Bd n x)
 |0,_,h=>h
 |n+1,x,h=>by rw[Qxg];exact Qma n (Qqr h)
theorem Qza(n:Nat)(hn:n<1000)(x:W4)(hx:wok x):Fz Tryz.prog Qg 181 [.agg (wc x),.int .i64 n] fun r=>r= .agg (wc (Bd n x)):=by
 refine Qw Tryz.func181 rfl ?_;have ez:([.int .u32 0,.int .u32 0,.int .u32 0,.int .u32 0]:List V)=zW:=rfl;simp only[wA,↓Qc,simprocAttr,Tryz.ntmps181,ta,wH,wB,ez,sc_w,ln_w,rd_w,sp_w,sp_z,ln_z,tk_w];refine W.ul ?_;refine W.loopS (kt:=[2,4,5,6]) rfl (fun a:Nat×W4=>Q4k (.ptr 0 2 0) (.ptr 0 4 0) (.int .i64 n) (.int .i64 a.1)) (fun a=>[[(2,.cells (wc a.2)),(4,.cells zW)]]) (fun a=>a.1<=n/\wok a.2/\Bd (n-a.1) a.2=Bd n x) (fun a=>n-a.1) ?_ (0,x) ⟨by simp,hx,rfl⟩ rfl rfl;rintro⟨i,y⟩ ⟨hi,hy,he⟩;simp only at hi hy he;simp only[Q4k];by_cases h:i<n
 . have c1:decide ((i:Int)<n)=true:=by simp;omega
   obtain⟨m,rfl,hm⟩:=(Q6v y hy).op (by rfl) rfl;have hm' :∀s H,_:=fun s H=>hm 181 0 s H rfl;have w1:(IntKind.i64).wrap ((i:Int)+1)=((i+1:Nat):Int):=by rw[wrap_i64]<;>omega
   simp only[wA,↓Qc,simprocAttr,ta,wH,wB,c1,hm',w1,sc_w,ln_w,rd_w,sp_w,sp_z,ln_z,tk_w];refine W.done ⟨(i+1,Qie y),rfl,rfl,⟨by simp only;omega,Qqr hy,?_⟩,by simp only;omega⟩;rw[<-he];have:n-i=(n-(i+1))+1:=by omega
   simp only;rw[this];rfl
 . have c1:decide ((i:Int)<n)=false:=by simp;omega
   have hn' :n-i=0:=by omega
   rw[hn'] at he;have he' :y=Bd n x:=he;subst he';simp only[wA,↓Qc,simprocAttr,c1];refine W.done ?_;simp only[wA,↓Qc,simprocAttr,ta,wH,wB,c1,sc_w,ln_w,rd_w,sp_w,sp_z,ln_z,tk_w];exact W.done (Qk.ret (v:= .agg (wc (Bd n x))) rfl rfl rfl)
theorem Qcp:byt Tryz.prog 5=some 1:=by kernel_rfl
theorem Qwe{l:List UInt8}{f s n e:Nat}(g:Get)(m:Nat):frz g (m+2) (.gS f s (Qb l) n e)=some (.iS (Qb l) n false):=by have:Qt (frz g (m+1)) (Qb l)=some (Qb l):=Qcr _ _ _;show(Qt (frz g (m+1)) (Qb l)).map _=_;rw[this];rfl
theorem Q1i{g:Get}{f s:Nat}{l:List UInt8}(h:g f s=some (.cells (Qb l)))(m:Nat):frz g (m+2) (.mS f s 0 l.length none 1)=some (.iS (Qb l) l.length false):=by
 have e:Qt (frz g (m+1)) (Qb l)=some (Qb l):=Qcr _ _ _;have t:((Qb l).drop 0).take (l.length*1)=Qb l:=by rw[Ztu,Zsd];exact Ztz (by rw[Q8];exact Zrf _)
 show(match g f s with
  |some (.cells xs)=>if 0+l.length*1<=xs.length then(Qt (frz g (m+1)) ((xs.drop 0).take (l.length*1))).map fun cs=>V.iS cs l.length ((none:Option Nat)==some l.length) else none
  |_=>none)=_
 rw[h];rw[Zsd] at t;simp only[Zsd,t,e,Zrm,Q8,Zrf,if_true];rfl
theorem scl_fz(v:V)(l:List UInt8)(hv:Qf v l)(hl:l.length<=1048576):Fz Tryz.prog Qg 123 [v] fun r=>Qf r l:=by
 refine Qw Tryz.func123 rfl ?_;by_cases hn:v= .nS
 . subst hn;have h0:l=[]:=by
    obtain⟨hlen,⟨_,h⟩|⟨f,h⟩⟩:=hv
    . exact Zst h
    . cases h
   subst h0;have e:∀p q,Zp Tryz.prog .eql 26 p q .nS .nS=some (.bool true):=fun p q=>rfl;simp only[wA,↓Qc,simprocAttr,Tryz.ntmps123,ta,wH,wB,e];exact W.done (Qk.ret rfl rfl Qf.nil)
 . have hv' :=hv;obtain⟨hlen,⟨h,_⟩|⟨f,rfl⟩⟩:=hv
   . exact absurd h hn
   have sc:=Q0.sc (g:=Qd [[]]) hv';have mt7:Qg.mt 123 7=true:=rfl;have mt5:Qg.mt 123 5=false:=rfl;by_cases h0:l=[]
   . subst h0;have ap:Qq Tryz.prog (Qg.mt 123) 0 (Qd [[]]) (some 7) 26 26 (.iS [] 0 true) (.iS (Qb []) 0 f)=some (.val (.iS [] 0 true) none):=by
      simp only[Qq,Tryz.underlying26,sz5,Qcp,zc5,Z3,sc];rfl
     simp only[wA,↓Qc,simprocAttr,Tryz.ntmps123,ta,wH,wB,Qbk Tryz.underlying26,Q2,ap,mt7,mt5,Tryz.underlying26];refine W.done ?_;refine Qk.ret (v:= .iS [] 0 true) (v' := .iS [] 0 true) rfl rfl ?_;exact Qf.mk [] true
   . have hp:0<l.length:=List.length_pos_iff.2 h0;have ap:Qq Tryz.prog (Qg.mt 123) 0 (Qd [[]]) (some 7) 26 26 (.iS [] 0 true) (.iS (Qb l) l.length f)=some (.val (.mS 0 7 0 l.length none 1) (some (0,7,.cells (Qb l)))):=by
      rw[Qk2 Tryz.underlying26 sz5 Qcp zc5 rfl Tryz.underlying26 sc hp rfl (Jj (by omega) (by omega)),Zti,Zrm,Qqb mt7 (Ja l) rfl]
     simp only[wA,↓Qc,simprocAttr,Tryz.ntmps123,ta,wH,wB,Qbk Tryz.underlying26,Q2,ap,mt7,mt5,Tryz.underlying26];exact W.done (Qk.ret (v:= .mS 0 7 0 l.length none 1) rfl (Q1i rfl 10) (Qf.mk l false))
theorem Zel(v:V)(l:List UInt8)(hv:Qf v l)(hl:l.length<=1048576):Fz Tryz.prog Qg 179 [v] fun r=>Qf r l/\(r= .nS\/∃c n,r= .iS c n true):=by
 refine Qw Tryz.func179 rfl ?_;have len:=hv.len Tryz.underlying26;have h2:∃w,(∀g,Zh Tryz.prog g 26 v none (some (.int .i64 l.length)) (some (.int .i64 l.length))=some w)/\Qf w l/\(w= .nS\/∃c n,w= .iS c n true):=by
  have ol:∀x:Nat,Yj (some (.int .i64 x))=some (some (x:Int)):=fun x=>rfl;obtain⟨hl',⟨rfl,h0⟩|⟨f,rfl⟩⟩:=hv
  . have e:l=[]:=Zst h0;subst e;refine⟨.nS,fun g=>?_,Qf.nil,.inl rfl⟩;simp only[Zh,ol,Tryz.underlying26,sz5,Xs];rfl
  . refine⟨.iS (Qb l) l.length true,fun g=>?_,Qf.mk _ _,.inr ⟨_,_,rfl⟩⟩;have on:Yj none=some none:=rfl;simp only[Zh,ol,on,Tryz.underlying26,sz5,Qj9,hl',if_true,Xs,Zs3,Zsu];rw[if_pos ⟨by omega,by omega,by omega,by omega,by omega,by omega,by simp⟩];have:((Qb l).take l.length)=Qb l:=Ztz (by rw[Q8];exact Zrf _);simp[this]
 obtain⟨w,sl,hw,hc⟩:=h2;simp only[wA,↓Qc,simprocAttr,Tryz.ntmps179,ta,wH,wB,len,sl];exact W.done (Qk.ret (v:=w) rfl (hw.frz _) ⟨hw,hc⟩)
def Qba(l:List UInt8)(k:Nat):List UInt8:=l++1::List.replicate k 0
theorem Qem(l:List UInt8)(k:Nat):(Qba l k).length=l.length+1+k:=by simp[Qba];omega
theorem Q7p(l:List UInt8)(k:Nat):Qba l k++[0]=Qba l (k+1):=by simp[Qba,List.replicate_succ']
noncomputable def Qjf(y:W4)(p:List UInt8):W4:=Bd 4 ⟨Nat.xor y.a (Yv (p.take 4)),y.b,Nat.xor y.c (Yv (p.drop 4)),y.d⟩
noncomputable def Qey(l:List UInt8):Nat->W4
 |0=>⟨1,2,3,4⟩
 |j+1=>Qjf (Qey l j) ((l.drop (8*j)).take 8)
theorem Q3g{l:List UInt8}(h:l.length=4):Yv l<4294967296:=by have:=Qlb l;rw[h] at this;exact this
theorem Q81{y:W4}{p:List UInt8}(hy:wok y)(hp:p.length=8):wok (Qjf y p):=by obtain⟨h1,h2,h3,h4⟩:=hy;exact Qma 4 ⟨Qes h1 (Q3g (by simp;omega)),h2,Qes h3 (Q3g (by simp;omega)),h4⟩
theorem Q4f(z:W4)(n:Nat)(T:List V){G:AM.Heap}(hr:Qi (fun f _=>Nat.ble 1 f) T=false)(hG:G=[[]]\/G=[]):WF ([[(2,.cells zW),(3,.cells [.int .u32 z.a,.int .u32 z.b,.int .u32 z.c,.int .u32 z.d]),(11,.grow n),(1000006,.loop 0 none 139 6 T)]]++G):=by
 have h2:WF [[(2,.cells zW),(3,.cells [.int .u32 z.a,.int .u32 z.b,.int .u32 z.c,.int .u32 z.d]),(11,.grow n),(1000006,.loop 0 none 139 6 T)]]:=by have h0:(O.loop 0 none 139 6 T).refs (fun f _=>Nat.ble 1 f)=false:=hr;show Qz (fun f _=>Nat.ble 1 f) _=true;simp only[Qz,Zb,h0];rfl
 rcases hG with rfl|rfl
 . exact h2.app rfl
 . exact h2
theorem Q1t(y:W4)(hy:wok y)(n:Nat)(T:List V)(hT:T.length=47)(h3:T.getD 3 .bad= .ptr 0 3 0)(hr:Qi (fun f _=>Nat.ble 1 f) T=false)(w:V)(p:List UInt8)(hw:Qf w p)(hp:p.length=8):
 Qp Tryz.prog Qg none [.yield 0 1000006,w] ([[(2,.cells zW),(3,.cells (wc y)),(11,.grow n),(1000006,.loop 0 none 139 6 T)]]++[[]])=some (.ret (.bool true),[[(2,.cells zW),(3,.cells (wc (Qjf y p))),(11,.grow n),(1000006,.loop 0 none 139 6 T)]]++[[]]):=by
 obtain⟨r,H3,h1,rfl,rfl⟩:=B8 (P:=Tryz.prog) (pol:=Qg) (fo:=0) (so:=1000006) (args:=[w]) (H:=[[(2,.cells zW),(3,.cells (wc y)),(11,.grow n),(1000006,.loop 0 none 139 6 T)],[]]) (p:=none) (fL:=139) (rid:=6) (t0:=T)
  (R:=fun r H3=>r= .ret (.bool true)/\H3=[[(2,.cells zW),(3,.cells (wc (Qjf y p))),(11,.grow n),(1000006,.loop 0 none 139 6 T)],[]]) rfl (X9 Tryz.func139 rfl rfl) rfl (by
    change W (U _ _ _ _ _ _ _ .normal (T.set 21 _) _) _;have hy' :=hy;obtain⟨ya,yb,yc,yd⟩:=hy';obtain⟨w1,sl1,hw1⟩:=hw.cut (P:=Tryz.prog) Tryz.underlying26 sz5 none (some 4) (by simp) (by simp) (by simp only[Zs3];omega);obtain⟨w2,sl2,hw2⟩:=hw.cut (P:=Tryz.prog) Tryz.underlying26 sz5 (some 4) none (by simp) (by simp only[Zs3,Zsu];omega) (by simp);have e1:(p.drop ((none:Option Int).getD 0).toNat).take (((some (4:Int)).getD p.length).toNat-((none:Option Int).getD 0).toNat)=p.take 4:=by simp
    have e2:(p.drop ((some (4:Int)).getD 0).toNat).take (((none:Option Int).getD p.length).toNat-((some (4:Int)).getD 0).toNat)=p.drop 4:=by simp only[Zs3,Zsu,Ztx];rw[Ztz (by simp)];rfl
    rw[e1] at hw1;rw[e2] at hw2;simp only[Zrb,Ztc] at sl1 sl2;obtain⟨m1,rfl,hm1⟩:=(Qsn w1 _ hw1 (by simp;omega)).op (by rfl) (Qa (hw1.frz _) rfl);obtain⟨m2,rfl,hm2⟩:=(Qsn w2 _ hw2 (by simp;omega)).op (by rfl) (Qa (hw2.frz _) rfl);have hm1' :∀s H,_:=fun s H=>hm1 139 2 s H rfl;have hm2' :∀s H,_:=fun s H=>hm2 139 2 s H rfl;have l1:Yv (p.take 4)<4294967296:=Q3g (by simp;omega);have l2:Yv (p.drop 4)<4294967296:=Q3g (by simp;omega);have b1:∀a b,Zp Tryz.prog .xor 27 a b (.int .u32 y.a) (.int .u32 (Yv (p.take 4)))=_:=fun a b=>xorU y.a _ ya l1;have b2:∀a b,Zp Tryz.prog .xor 27 a b (.int .u32 y.c) (.int .u32 (Yv (p.drop 4)))=_:=fun a b=>xorU y.c _ yc l2;have x1:=Qes ya l1;have x2:=Qes yc l2;have es:Qjf y p=Bd 4 ⟨Nat.xor y.a (Yv (p.take 4)),y.b,Nat.xor y.c (Yv (p.drop 4)),y.d⟩:=rfl;rw[es];generalize(Nat.xor y.a (Yv (p.take 4)):Nat)=xa at*;generalize(Nat.xor y.c (Yv (p.drop 4)):Nat)=xc at*;generalize(Yv (p.take 4):Nat)=n1 at*;generalize(Yv (p.drop 4):Nat)=n2 at*;obtain⟨m3,rfl,hm3⟩:=(Qza 4 (by omega) ⟨xa,y.b,xc,y.d⟩ ⟨x1,yb,x2,yd⟩).op (by rfl) rfl;have hm3' :∀s H,AM.callOp Qg (Qp Tryz.prog Qg) 139 2 s 181 [.agg [.int .u32 xa,.int .u32 y.b,.int .u32 xc,.int .u32 y.d],.int .i64 4] H=_:=fun s H=>hm3 139 2 s H rfl;generalize Bd 4 ⟨xa,y.b,xc,y.d⟩=z at*;obtain⟨c,d,e,f⟩:=y;simp only[wc] at*;simp only[wA,↓Qc,simprocAttr,wH,wB,ta,Yo,Yq,Zs5,hT,h3,Nat.reduceBEq];refine W.done ⟨rfl,none,139,6,T,rfl,?_⟩;simp only[wA,↓Qc,simprocAttr,wH,wB,ta,Yo,Yq,Zs5,hT,h3,Nat.reduceBEq,ia0,ia1,ia2,ia3,sl1,sl2,hm1',hm2',hm3',b1,b2];refine W.opsK (by kernel_rfl) ?_;simp only[wA,↓Qc,simprocAttr,wH,wB,ta,Yo,Yq,Zs5,hT,h3,Nat.reduceBEq,ia0,ia1,ia2,ia3,sl1,sl2,hm1',hm2',hm3',b1,b2];refine W.opsK (by kernel_rfl) ?_;simp only[wA,↓Qc,simprocAttr,wH,wB,ta,Yo,Yq,Zs5,hT,h3,Nat.reduceBEq,ia0,ia1,ia2,ia3,sl1,sl2,hm1',hm2',hm3',b1,b2];refine W.done ⟨_,_,rfl,rfl,?_⟩
    exact Zl (H:=[[(2,.cells zW),(3,.cells [.int .u32 z.a,.int .u32 z.b,.int .u32 z.c,.int .u32 z.d]),(11,.grow n),(1000006,.loop 0 none 139 6 T)],[]]) (G:=[[]]) rfl (Q4f z n T hr (.inl rfl)))
 exact h1
theorem Qhj(p:Nat->Nat->Bool):∀l:List UInt8,Qi p (Qb l)=false
 |[]=>rfl
 |b::l=>by
  have:=Qhj p l;simp only[Qb,Zrw,Qi,V.refs,Zs2] at this⊢;exact this
theorem Qli{l:List UInt8}:∀{j:Nat},8*j<=l.length->wok (Qey l j)
 |0,_=>(show wok ⟨1,2,3,4⟩ from⟨by decide,by decide,by decide,by decide⟩)
 |j+1,h=>Q81 (Qli (by omega)) (by simp;omega)
theorem Q57(v:V)(l:List UInt8)(hv:Qf v l)(hl:l.length<=2097152)(m:Nat)(hm:l.length=8*m)(n:Nat)(T:List V)(hT:T.length=47)(h3:T.getD 3 .bad= .ptr 0 3 0)(hr:Qi (fun f _=>Nat.ble 1 f) T=false):
 CW Tryz.prog Qg 58 [.yield 0 1000006,.iptr [v] 0,.iptr [.int .i64 8] 0] [[(2,.cells zW),(3,.cells (wc ⟨1,2,3,4⟩)),(11,.grow n),(1000006,.loop 0 none 139 6 T)]] fun r H' =>r= .ret (.tuple [])/\H' =[[(2,.cells zW),(3,.cells (wc (Qey l m))),(11,.grow n),(1000006,.loop 0 none 139 6 T)]]:=
 Q8m v l hv (by omega) 8 (by omega) (by omega) m hm 0 1000006 (fun j=>[[(2,.cells zW),(3,.cells (wc (Qey l j))),(11,.grow n),(1000006,.loop 0 none 139 6 T)]]) (fun _=>rfl) (Q4f _ n T hr (.inr rfl))
  (fun j hj w hw=>Q1t (Qey l j) (Qli (by omega)) n T hT h3 hr w _ hw (by simp;omega))
def K7(n:Nat):Nat:=(8-(n+1)%8)%8
noncomputable def Xh(l:List UInt8):W4:=
 let y:=Qey (Qba l (K7 l.length)) ((l.length+1+K7 l.length)/8)
 Bd 8 ⟨y.a,Nat.xor y.b l.length,y.c,y.d⟩
theorem Q34(v:V)(l:List UInt8)(hv:Qf v l)(hl:l.length<=1048576):Fz Tryz.prog Qg 139 [v] fun r=>r= .agg (wc (Xh l)):=by
 refine Qw Tryz.func139 rfl ?_;obtain⟨v1,hv1,hm1⟩:=(scl_fz v l hv hl).op (by rfl) (Qa (hv.frz _) rfl);have hm1' :∀s H,_:=fun s H=>hm1 139 0 s H rfl;obtain⟨v2,⟨hv2,hc2⟩,hm2⟩:=(Zel v1 l hv1 hl).op (by rfl) (Qa (hv1.frz _) rfl);have hm2' :∀s H,_:=fun s H=>hm2 139 0 s H rfl;have ez:([.int .u32 0,.int .u32 0,.int .u32 0,.int .u32 0]:List V)=zW:=rfl;have ew:([.int .u32 1,.int .u32 2,.int .u32 3,.int .u32 4]:List V)=wc ⟨1,2,3,4⟩:=rfl;have dz:zW.drop 4=[]:=rfl;have bv:K4 Tryz.prog 201 [(0,.int .u32 1),(1,.int .u32 2),(2,.int .u32 3),(3,.int .u32 4)]=some (.agg (wc ⟨1,2,3,4⟩)):=by kernel_rfl
 have mt:∀s,s<2000000->Qg.mt 139 s=false:=fun s h=>Qch h rfl;have sc1:∀g,Ql g 1 (.iS [.int .u8 1] 1 true)=some ([.int .u8 1],1):=fun g=>rfl;have pe:Qb l++[.int .u8 1]=Qb (Qba l 0):=by simp[Qba,Qb]
 have ap:Qq Tryz.prog (Qg.mt 139) 0 (Qd [[(2,.cells zW),(3,.cells (wc ⟨1,2,3,4⟩))]]) (some 11) 26 26 v2 (.iS [.int .u8 1] 1 true)=some (.val (.gS 0 11 (Qb (Qba l 0)) (l.length+1) 1) (some (0,11,.grow (l.length+1)))):=by
  have len2:=hv2;rcases hc2 with rfl|⟨c,n,rfl⟩
  . have h0:l=[]:=by
     obtain⟨hlen,⟨_,h⟩|⟨f,h⟩⟩:=hv2
     . exact Zst h
     . cases h
    subst h0;rw[Qbq Tryz.underlying26 sz5 Qcp zc5 rfl Tryz.underlying26 (sc1 _) (by omega) (by decide),Xc (mt _ (by decide)) rfl rfl];rfl
  . obtain⟨hlen,⟨h,_⟩|⟨f,h⟩⟩:=hv2
    . cases h
    . cases h;rw[Qk2 Tryz.underlying26 sz5 Qcp zc5 rfl Tryz.underlying26 (sc1 _) (by omega) hlen (Jj (by omega) (by omega)),Xc (mt _ (by decide)) rfl rfl,pe]
 simp only[wA,↓Qc,simprocAttr,Tryz.ntmps139,ta,wH,wB,hm1',hm2',ez,ew,mt,Q2,ap,sc_w,ln_w,Tryz.underlying26,bv,ln_z,dz];refine W.ul ?_;refine W.loopS (kt:=[0,2,3,4]) rfl (fun k:Nat=>Q33 v (.ptr 0 2 0) (.ptr 0 3 0) (.gS 0 11 (Qb (Qba l k)) (l.length+1+k) 1)) (fun k=>[[(2,.cells zW),(3,.cells (wc ⟨1,2,3,4⟩)),(11,.grow (l.length+1+k))]]) (fun k=>k<=K7 l.length) (fun k=>K7 l.length-k) ?_ 0 (Zt2 _) rfl rfl;intro k hk;have pn:K7 l.length<8:=Nat.mod_lt _ (by decide);simp only[Q33];have lg:∀g,Y4 Tryz.prog g 26 (.gS 0 11 (Qb (Qba l k)) (l.length+1+k) 1)=some (.int .i64 ((l.length+1+k:Nat):Int)):=Q4j Tryz.underlying26;have rm:∀a b,Zp Tryz.prog .rem 3 a b (.int .i64 ((l.length+1+k:Nat):Int)) (.int .i64 8)=some (.int .i64 (((l.length+1+k)%8:Nat):Int)):=fun a b=>by
  have e:((l.length+1+k:Nat):Int).tmod 8=(((l.length+1+k)%8:Nat):Int):=by rw[Int.tmod_eq_emod_of_nonneg (by omega)];omega
  rw[<-e];rfl
 by_cases h:k<K7 l.length
 . have c1:((((l.length+1+k)%8:Nat):Int) !=0)=true:=by
    have:(l.length+1+k)%8≠0:=by unfold K7 at h pn;omega
    simp only[bne_iff_ne,ne_eq];omega
   generalize hN:(l.length+1+k:Nat)=N at*;have pk:Qb (Qba l k)++[.int .u8 0]=Qb (Qba l (k+1)):=by rw[<-Q7p,K8];rfl
   have ap2:Qq Tryz.prog (Qg.mt 139) 0 (Qd [[(2,.cells zW),(3,.cells (wc ⟨1,2,3,4⟩)),(11,.grow N)]]) (some 18) 26 26 (.gS 0 11 (Qb (Qba l k)) N 1) (.iS [.int .u8 0] 1 true)=some (.val (.gS 0 11 (Qb (Qba l (k+1))) (N+1) 1) (some (0,11,.grow (N+1)))):=by rw[Qa2 Tryz.underlying26 sz5 Qcp zc5 rfl Tryz.underlying26 (cs:=[.int .u8 0]) (m:=1) rfl (by omega) (Jj (by omega) (by omega)) rfl rfl rfl,pk]
   simp only[wA,↓Qc,simprocAttr,ta,wH,wB,mt,Q2,lg,rm,c1,Tryz.underlying26,ap2];have eN:N+1=l.length+1+(k+1):=by omega
   refine W.done ⟨k+1,?_,?_,by omega,by omega⟩
   . rw[<-eN];rfl
   . rw[<-eN]
 . have hk' :k=K7 l.length:=by omega
   subst hk';have c1:((((l.length+1+K7 l.length)%8:Nat):Int) !=0)=false:=by
    have:(l.length+1+K7 l.length)%8=0:=by unfold K7;omega
    rw[this];rfl
   have hv3:Qf (.iS (Qb (Qba l (K7 l.length))) (l.length+1+K7 l.length) false) (Qba l (K7 l.length)):=by have:=Qf.mk (Qba l (K7 l.length)) false;rwa[Qem] at this
   have m8:l.length+1+K7 l.length=8*((l.length+1+K7 l.length)/8):=by unfold K7;omega
   have pl:=Qem l (K7 l.length);obtain⟨m3,rfl,hm3⟩:=(Qpi _ _ hv3 8 (by omega)).op' (args:=[.gS 0 11 (Qb (Qba l (K7 l.length))) (l.length+1+K7 l.length) 1,.int .i64 8]) (by rfl) (Qa (Qwe _ _) rfl);have hm3' :∀s H,_:=fun s H=>hm3 139 0 s H rfl;have fe:Xh l=Bd 8 ⟨(Qey (Qba l (K7 l.length)) ((l.length+1+K7 l.length)/8)).a,Nat.xor (Qey (Qba l (K7 l.length)) ((l.length+1+K7 l.length)/8)).b l.length,(Qey (Qba l (K7 l.length)) ((l.length+1+K7 l.length)/8)).c,(Qey (Qba l (K7 l.length)) ((l.length+1+K7 l.length)/8)).d⟩:=rfl;rw[fe];generalize hN:(l.length+1+K7 l.length:Nat)=N at*;generalize Qba l (K7 l.length)=L at*;have ok:=Qli (l:=L) (j:=N/8) (by omega);have lp:=fun T=>Q57 _ L hv3 (by omega) (N/8) (by omega) N T;generalize Qey L (N/8)=y at*;simp only[wA,↓Qc,simprocAttr,ta,wH,wB,mt,Q2,lg,rm,c1,Tryz.underlying26];refine W.done ?_;simp only[wA,↓Qc,simprocAttr,ta,wH,wB,mt,Q2,lg,rm,c1,Tryz.underlying26,hm3'];refine W.rfunc (rid:=6) rfl rfl rfl ?_;refine(lp _ rfl rfl ?_).mono ?_
   . simp only[Qi,V.refs,hv.noRefs,Qhj];rfl
   rintro r H2 ⟨rfl,rfl⟩;refine⟨_,rfl,?_⟩;rw[Qbg (st:=0) (f:=139) (r:=6) rfl (by decide) (by simp only[Qi,V.refs,hv.noRefs,Qhj];rfl) rfl];have hH:∀T,List.modify [[(2,O.cells zW),(3,.cells (wc y)),(11,.grow N),(1000006,.loop 0 none 139 6 T)]] 0 (Jb fun x=>[Qv 6].contains x)=[[(2,.cells zW),(3,.cells (wc y)),(11,.grow N)]]:=fun T=>rfl;rw[hH];obtain⟨c,d,e,f⟩:=y;obtain⟨yc,yd,ye,yf⟩:=ok;have len:=hv.len Tryz.underlying26;have cv:∀g,convertV Tryz.prog g 3 27 (.int .i64 l.length)=some (.val (.int .u32 l.length) none):=fun g=>by
    simp only[convertV,Tryz.underlying3,Tryz.underlying27];have:(IntKind.u32).wrap (l.length:Int)=l.length:=by rw[IntKind.wrap_u32];omega
    simp only[this]
   have ll:l.length<4294967296:=by omega
   have b1:∀a b,Zp Tryz.prog .xor 27 a b (.int .u32 d) (.int .u32 l.length)=_:=fun a b=>xorU d _ yd ll;have x1:=Qes yd ll;simp only at x1 yc ye yf⊢;generalize(Nat.xor d l.length:Nat)=x at*;obtain⟨m4,rfl,hm4⟩:=(Qza 8 (by omega) ⟨c,x,e,f⟩ ⟨yc,x1,ye,yf⟩).op (by rfl) rfl;have hm4' :∀s H,AM.callOp Qg (Qp Tryz.prog Qg) 139 0 s 181 [.agg [.int .u32 c,.int .u32 x,.int .u32 e,.int .u32 f],.int .i64 8] H=_:=fun s H=>hm4 139 0 s H rfl;have sz4:∀w:W4,splice zW 0 (wc w)=wc w:=fun w=>rfl;generalize Bd 8 ⟨c,x,e,f⟩=z at*;have wz:wc ⟨c,d,e,f⟩=[.int .u32 c,.int .u32 d,.int .u32 e,.int .u32 f]:=rfl;rw[wz];simp only[wA,↓Qc,simprocAttr,ta,wH,wB,ia0,ia1,ia2,ia3,len,cv,b1,hm4',sc_w,ln_w,rd_w,sp_w,sp_z,ln_z,tk_w,dz];exact W.done (Qk.ret (v:= .agg (wc z)) rfl rfl rfl)
theorem Q8a(v:V)(l:List UInt8)(hv:Qf v l)(hl:l.length<=1048576):CW Tryz.prog Qg 99 [v] [] fun r _=>r= .ret (.int .u32 (Xh l).a):=by
 refine Kb Tryz.func99 rfl ?_;obtain⟨m,rfl,hm⟩:=(Q34 v l hv hl).op (by rfl) (Qa (hv.frz _) rfl);have hm' :∀s H,_:=fun s H=>hm 99 0 s H rfl;have ix:B1 Tryz.prog 201 (.agg (wc (Xh l))) (.int .i64 0)=some (.int .u32 (Xh l).a):=by simp only[B1,Tryz.underlying201,Qtd];rfl
 generalize Xh l=z at*;simp only[wA,↓Qc,simprocAttr,Tryz.ntmps99,ta,wH,wB,hm',ix];exact W.done (End.ret (v:= .int .u32 z.a) rfl rfl)
noncomputable def Qnd:List UInt8->Nat->W4->W4
 |_,0,x=>x
 |L,m+1,x=>Qnd (L.drop 8) m (Qjf x (L.take 8))
theorem Qpq:∀(j:Nat) (L:List UInt8) (x:W4),Qnd L (j+1) x=Qjf (Qnd L j x) ((L.drop (8*j)).take 8)
 |0,L,x=>rfl
 |j+1,L,x=>by
  have:=Qpq j (L.drop 8) (Qjf x (L.take 8));rw[Qnd,this,Zsh,show 8+8*j=8*(j+1) by omega];rfl
theorem Q3z:∀(j:Nat) (L:List UInt8),Qey L j=Qnd L j ⟨1,2,3,4⟩
 |0,L=>rfl
 |j+1,L=>by rw[Qpq,Qey,Q3z j L]
theorem Qry:∀(m n:Nat) (L:List UInt8) (x:W4),L.length=8*m->m<=n->Qlo n (Qb L) x=Qnd L m x
 |0,n,L,x,h,_=>by
  have:L=[]:=Zst h;subst this;cases n<;>rfl
 |m+1,n,L,x,h,hn=>by
  obtain⟨n,rfl⟩:∃k,n=k+1:=⟨n-1,by omega⟩
  match L,h with
  |a::b::c::d::e::f::g::i::r,h=>
   have ih:=Qry m n r (Qjf x [a,b,c,d,e,f,g,i]) (by simp only[Zrs] at h;omega) (by omega);have e1:Qnd (a::b::c::d::e::f::g::i::r) (m+1) x=Qnd r m (Qjf x [a,b,c,d,e,f,g,i]):=rfl;have e2:Qlo (n+1) (Qb (a::b::c::d::e::f::g::i::r)) x=Qi2 (Nat.xor x.a (Yv [a,b,c,d])) fun p=>Qi2 (Nat.xor x.c (Yv [e,f,g,i])) fun q=>Qlo n (Qb r) (Bd (nat_lit 4) ⟨p,x.b,q,x.d⟩):=rfl;rw[e1,<-ih,e2,Qqe,Qqe];rfl
  |[],h=>simp at h
  |[_],h=>simp at h;omega
  |[_,_],h=>simp at h;omega
  |[_,_,_],h=>simp at h;omega
  |[_,_,_,_],h=>simp at h;omega
  |[_,_,_,_,_],h=>simp at h;omega
  |[_,_,_,_,_,_],h=>simp at h;omega
  |[_,_,_,_,_,_,_],h=>simp at h;omega
theorem Q3r(l:List UInt8):Qwu (Qb l)=Xh l:=by
 have hp:pad8 (Qb l)=Qb (Qba l (K7 l.length)):=by simp[pad8,Qba,K7,Qb]
 have m8:l.length+1+K7 l.length=8*((l.length+1+K7 l.length)/8):=by unfold K7;omega
 have pn:K7 l.length<8:=Nat.mod_lt _ (by decide);have h:=Qry ((l.length+1+K7 l.length)/8) (l.length+1) (Qba l (K7 l.length)) ⟨1,2,3,4⟩ (by rw[Qem];exact m8) (by omega);have e:Qwu (Qb l)=(match Qlo ((Qb l).length+1) (pad8 (Qb l)) ⟨1,2,3,4⟩ with
  |x=>Bd 8 ⟨x.a,Nat.xor x.b (Qb l).length,x.c,x.d⟩):=rfl
 rw[e,hp,Q8,h,<-Q3z];rfl
theorem Zdh(ys:List V)(v:V)(h:kSum ys=some v):FzN Tryz.prog Qg 99 ys v:=by
 unfold kSum at h;split at h
 case h_2=>cases h
 rename_i x;split at h
 case h_2=>cases h
 rename_i c hc;cases h;obtain⟨l,rfl,hb,hl⟩:=Qmq hc;obtain⟨r,H,e1,rfl⟩:=Q8a x l hb hl;rw[Q3r];exact⟨_,_,e1,rfl⟩
end
section
set_option maxRecDepth 100000
open Go.AM
attribute [local irreducible] U W
structure Qco(bv wv sv:V)(bl:List (List UInt8))(wl:List (Int×List UInt8))(sp:List UInt8):Prop where
 blocks:Kt bv bl
 waits:Qa9 wv wl
 space:Qf sv sp
 b1:bl.length<=K6
 w1:wl.length<=K6
 w0:∀w∈wl,-9223372036854775808<=w.1/\w.1<=9223372036854775807
abbrev Qdb(bv wv sv:V)(e c:Int):V:= .agg [bv,wv,sv,.int .u32 e,.int .u32 c]
theorem Qas{bv wv sv:V}{bl wl sp}(h:Qco bv wv sv bl wl sp)(e c:Int)(g:Get):frz g depth (Qdb bv wv sv e c)=some (Qdb bv wv sv e c):=by obtain⟨bcs,hbc,hbv⟩:=h.blocks;obtain⟨wcs,hwc,hwv⟩:=h.waits;show Option.map V.agg (Qt (AM.frz _ 11) [bv,wv,sv,.int .u32 e,.int .u32 c])=_;rw[Qa (hbv.frz 10) (Qa (hwv.frz 10) (Qa (h.space.frz 10) (Qa rfl (Qa rfl rfl))))];rfl
theorem Qhp{bv wv sv:V}{bl wl sp}(h:Qco bv wv sv bl wl sp)(e c:Int):
 Fz Tryz.prog Qg 67 [Qdb bv wv sv e c] fun x=>x= .int .i64 (okE (Qad (okE (B2 bl wl)) (Xx sp) e c)):=by
 obtain⟨bcs,hbc,hbv⟩:=h.blocks;obtain⟨wcs,hwc,hwv⟩:=h.waits;exact Qiy bv wv sv _ (Qhz bv wv bl wl h.blocks h.waits h.b1 h.w1) (Qdp h.blocks h.waits _) (Ze hbv) (Ze hwv) sp h.space e c
theorem Q8b(v:V)(l:List UInt8)(hv:Qf v l)(hl:l.length<=1048576):Fz Tryz.prog Qg 99 [v] fun x=>x= .int .u32 (Xh l).a:=by refine Fz.of_cw ((Q8a v l hv hl).mono ?_);rintro r H rfl;exact⟨_,rfl,_,rfl,rfl⟩
theorem Zae{p:Zq}(h:Yp p=true)(h0:p≠J3):12<=p.at_/\p.at_<256:=by simp only[Yp,h0,decide_false,Zs2,Q0y,Zss,Zsr,decide_eq_false_iff_not] at h;omega
theorem Qu9{bv wv sv:V}{bl wl sp}(h:Qco bv wv sv bl wl sp)(e c:Int)(p:Zq):Fz Tryz.prog Qg 56 [Qdb bv wv sv e c,.agg p.cells] Qgl:=by
 refine Qw Tryz.func56 rfl ?_;have fs:=Qas h e c (fun _ _=>none);have fd:=Qdp h.blocks h.waits (fun _ _=>none);obtain⟨m,rfl,hm⟩:=(Qhp h e c).op (by rfl) (Qa fs rfl);have hm1:∀s H,_:=fun s H=>hm 56 0 s H rfl;obtain⟨m,rfl,hm⟩:=(Km p).op (by rfl) rfl;have hm2:∀s H,_:=fun s H=>hm 56 0 s H rfl;have e0:∀x y,Zp Tryz.prog .eql 31 x y (.agg p.cells) (.agg J3.cells)=_:=fun x y=>Qjv p J3;have bad:∀(x:Int) (T:List V) (H:Heap),x≠0->T.getD 4 .bad= .nS->T.getD 5 .bad= .int .i64 x->Qk Tryz.prog Tryz.f56 Qgl .ret T H:=by intro x T H hx h1 h2;refine Qk.ret (v:= .tuple [.nS,.int .i64 x]) ?_ rfl ⟨_,x,rfl,.inr ⟨hx,rfl⟩⟩;show(match Ks Tryz.prog T H [.tmp 4,.tmp 5] with|some [v]=>some v|some vs=>some (V.tuple vs)|none=>none)=_;simp only[Ks,Jv,h1,h2]
 obtain⟨bcs,hbc,hbv⟩:=id h.blocks;obtain⟨wcs,hwc,hwv⟩:=id h.waits;have sb:=Ze hbv;have sw:=Ze hwv;have ss:=Ze h.space;generalize hst:Qad (okE (B2 bl wl)) (Xx sp) e c=st at*;cases st
 . simp only[okE] at hm1;obtain⟨p1,p2,p3,p4,p5⟩:=p;simp only[Zq.cells] at hm2⊢;simp only[wA,↓Qc,simprocAttr,Tryz.ntmps56,ta,wH,wB,sb,sw,ss,hm1,hm2];exact W.done (bad 8 _ _ (by decide) rfl rfl)
 . simp only[okE] at hm1;cases hok:Yp p
   . rw[hok] at hm2;simp only[okE] at hm2;obtain⟨p1,p2,p3,p4,p5⟩:=p;simp only[Zq.cells] at hm2⊢;simp only[wA,↓Qc,simprocAttr,Tryz.ntmps56,ta,wH,wB,sb,sw,ss,hm1,hm2];exact W.done (bad 8 _ _ (by decide) rfl rfl)
   . rw[hok] at hm2;simp only[okE] at hm2;by_cases hp0:p=J3
     . subst hp0;simp only[decide_true] at e0;simp only[Zq.cells,J3] at hm2 e0⊢;simp only[wA,↓Qc,simprocAttr,Tryz.ntmps56,ta,wH,wB,sb,sw,ss,hm1,hm2,e0];exact W.done (bad 6 _ _ (by decide) rfl rfl)
     . have hat:=Zae hok hp0;obtain⟨m,⟨v,x,rfl,hr⟩,hm⟩:=(Q1a h.blocks h.waits h.b1 h.w1 h.w0 p.at_ (by omega)).op (by rfl) (Qa fd (Qa rfl rfl));have hm3:∀s H,_:=fun s H=>hm 56 0 s H rfl;have hd0:decide (p=J3)=false:=Zun hp0;simp only[hd0] at e0;obtain⟨p1,p2,p3,p4,p5⟩:=p;simp only[Zq.cells,J3] at hm2 e0 hm3⊢;rcases hr with⟨rfl,l,hl,hll⟩|⟨hx,rfl⟩
       . obtain⟨m,rfl,hm⟩:=(Q8b v l hl (by omega)).op (by rfl) (Qa (hl.frz _) rfl);have hm4:∀s H,_:=fun s H=>hm 56 0 s H rfl;have hend:Qk Tryz.prog Tryz.f56 Qgl .ret=Qk Tryz.prog Tryz.f56 Qgl .ret:=rfl;have good:∀(T:List V) (H:Heap),T.getD 4 .bad=v->T.getD 5 .bad= .int .i64 0->Qk Tryz.prog Tryz.f56 Qgl .ret T H:=by
          intro T H h1 h2;refine Qk.ret (v:= .tuple [v,.int .i64 0]) ?_ ?_ ⟨_,0,rfl,.inl ⟨rfl,l,hl,hll⟩⟩
          . show(match Ks Tryz.prog T H [.tmp 4,.tmp 5] with|some [v]=>some v|some vs=>some (V.tuple vs)|none=>none)=_;simp only[Ks,Jv,h1,h2]
          . show Option.map V.tuple (Qt (AM.frz _ 11) [v,.int .i64 0])=_;rw[Qa (hl.frz 10) (Qa rfl rfl)];rfl
         generalize((Xh l).a:Int)=y at*;simp only[wA,↓Qc,simprocAttr,Tryz.ntmps56,ta,wH,wB,sb,sw,ss,hm1,hm2,e0,hm3,hm4];refine W.opsK1 (by kernel_rfl) fun _=>?_;simp only[wA,↓Qc,simprocAttr,ta,wH,wB];refine W.ite (fun _=>?_) (fun _=>?_)
         . simp only[wA,↓Qc,simprocAttr,ta,wH,wB];exact W.done (bad 130 _ _ (by decide) rfl rfl)
         . simp only[wA,↓Qc,simprocAttr,ta,wH,wB];exact W.done (good _ _ rfl rfl)
       . have c1:(x==0)=false:=by simpa using hx
         simp only[wA,↓Qc,simprocAttr,Tryz.ntmps56,ta,wH,wB,sb,sw,ss,hm1,hm2,e0,hm3,c1];refine W.opsK1 (by kernel_rfl) fun _=>?_;simp only[wA,↓Qc,simprocAttr,ta,wH,wB];exact W.done (bad x _ _ hx rfl rfl)
end
end Go.Proofs.YtidniacddkalaaaGreatDoor
