/- This file holds in one the texts An37, An40, An41, An48, An52, An54, An36, DL, EP; each says at its head what it proves. -/
import Derived.Test.YtidniacddkalaaaGreatDoorT13
import Derived.Test.YtidniacddkalaaaGreatDoorT16
set_option linter.unusedSimpArgs false
set_option linter.unusedVariables false
section
namespace Go.AM
def itF:Code->Option (Option Nat×List It)
 | .region _ ops false=>(match ops.toList with
   |o::r=>some (o.dst,[.ops ops r])
   |[]=>none)
 | .seq a b=>(match itF a with
   |some (d,k)=>some (d,k++[.code b])
   |none=>none)
 |_=>none
section
variable {P : Program} {pol : Pol} {C : Call} {L : Ka -> Kw} {fn fr : Nat} {t : List V} {H : Heap} {Q : Ex -> List V -> Heap -> Prop}
theorem J0:∀(k k' :List It) (e:Ex) (t:List V) (H:Heap),U P pol C L fn fr (k++k') e t H=(U P pol C L fn fr k e t H).bind fun x=>U P pol C L fn fr k' x.1 x.2.1 x.2.2
 |[],_,_,_,_=>rfl
 | .code c::k,k',e,t,H=>by
   cases e with
   |normal=>
    simp only[Zs0,U];cases Q5 P pol C L fn fr c t H with
    |none=>rfl
    |some x=>exact J0 k k' x.1 x.2.1 x.2.2
   |exit i=>exact J0 k k' _ t H
   |ret=>exact J0 k k' _ t H
   |panic v=>exact J0 k k' _ t H
 | .ops a l::k,k',e,t,H=>by
   cases e with
   |normal=>
    simp only[Zs0,U];cases Zi P pol C fn fr a l t H with
    |none=>rfl
    |some x=>exact J0 k k' x.1 x.2.1 x.2.2
   |exit i=>exact J0 k k' _ t H
   |ret=>exact J0 k k' _ t H
   |panic v=>exact J0 k k' _ t H
 | .opsT a l T::k,k',e,t,H=>by
   cases e with
   |normal=>
    simp only[Zs0,U];cases Q3 P pol C fn fr a l t H with
    |none=>rfl
    |some x=>
     simp only[Zrr];split
     . exact J0 k k' _ _ _
     . rfl
   |exit i=>exact J0 k k' _ t H
   |ret=>exact J0 k k' _ t H
   |panic v=>exact J0 k k' _ t H
 | .block id::k,k',e,t,H=>by
   cases e with
   |exit i=>
    simp only[Zs0,U];split
    . exact J0 k k' _ t H
    . exact J0 k k' _ t H
   |normal=>exact J0 k k' _ t H
   |ret=>exact J0 k k' _ t H
   |panic v=>exact J0 k k' _ t H
theorem Zbz{v:V}{w:Option (Nat×Nat×O)}:∀{c:Code} {d:Option Nat} {k:List It},itF c=some (d,k)->∀(t:List V) (H:Heap),Z5 P pol C L fn fr c v w t H=U P pol C L fn fr k .normal (Qu t d v) (wr H w):=by
 intro c
 induction c with
 |region id ops draw=>
  intro d k h t H;cases draw with
  |true=>cases h
  |false=>
   simp only[itF] at h;simp only[Z5];cases ho:ops.toList with
   |nil=>rw[ho] at h;cases h
   |cons o r=>
    rw[ho] at h;cases h;simp only[U];cases Zi P pol C fn fr ops r (Qu t o.dst v) (wr H w) with
    |none=>rfl
    |some x=>rfl
 |seq a b iha ihb=>
  intro d k h t H;simp only[itF] at h;cases ha:itF a with
  |none=>rw[ha] at h;cases h
  |some x=>
   obtain⟨d',k'⟩:=x;rw[ha] at h;cases h;simp only[Z5,iha ha,J0];cases U P pol C L fn fr k' .normal (Qu t d v) (wr H w) with
   |none=>rfl
   |some x=>
    obtain⟨e,t1,H1⟩:=x;cases e with
    |normal=>simp only[Zrr,Qu7]
    |exit i=>rfl
    |ret=>rfl
    |panic v=>rfl
 |_=>intro d k h;cases h
theorem Q9u{α:Type}{b:Code}{x:Operand}{d:Option Nat}{k:List It}(hn:Zx b=some x)(hi:itF b=some (d,k))(R:Ex×List V×Heap)(I:α->List V->Heap->Prop)(m:α->Nat)
 (step:∀a t H,I a t H->∃t1 H1 cs,forget pol fn fr (Zn b) t H=some (t1,H1)/\Y5 (Qd H1) (rho t1 x)=some cs/\
   ∀c∈cs,W (U P pol C Zz fn fr k .normal (Qu t1 d c.1) (wr H1 c.2)) fun e t2 H2=>match e with
    | .normal=>∃a',I a' t2 H2/\m a' <m a
    |e=>R=(e,t2,H2))(a:α)(h:I a t H):Zz (round P pol C Zz fn fr b) t H=some R:=by
 induction hm:m a using Nat.strongRecOn generalizing a t H with
 |ind n ih=>
  subst hm;obtain⟨t1,H1,cs,h1,h2,h3⟩:=step a t H h;rw[Qwp];have hr:round P pol C Zz fn fr b t H=cs.map fun c=>U P pol C Zz fn fr k .normal (Qu t1 d c.1) (wr H1 c.2):=by simp only[round,h1,hn,h2,Zbz hi]
  rw[hr];refine Qe5 (by simpa using Zav h2) fun y hy=>?_;rw[List.map_map] at hy;obtain⟨c,hc,rfl⟩:=Zr3.1 hy;obtain⟨e,t2,H2,q1,q2⟩:=(h3 c hc).out;simp only[Function.comp,q1];cases e with
  |normal=>
   obtain⟨a',q3,q4⟩:=q2;exact ih _ q4 a' q3 rfl
  |exit i=>exact congrArg some q2.symm
  |ret=>exact congrArg some q2.symm
  |panic v=>exact congrArg some q2.symm
theorem W.range{α:Type}{b:Code}{x:Operand}{d:Option Nat}{k:List It}(hn:Zx b=some x)(hi:itF b=some (d,k))(R:Ex×List V×Heap)(I:α->List V->Heap->Prop)(m:α->Nat)
 (step:∀a t H,I a t H->∃t1 H1 cs,forget pol fn fr (Zn b) t H=some (t1,H1)/\Y5 (Qd H1) (rho t1 x)=some cs/\
   ∀c∈cs,W (U P pol C Zz fn fr k .normal (Qu t1 d c.1) (wr H1 c.2)) fun e t2 H2=>match e with
    | .normal=>∃a',I a' t2 H2/\m a' <m a
    |e=>R=(e,t2,H2))(a:α)(h:I a t H)(hQ:Q R.1 R.2.1 R.2.2):W (Zz (round P pol C Zz fn fr b) t H) Q:=by
 rw[Q9u hn hi R I m step a h];exact hQ
theorem Q6z{g:Get}{f s:Nat}{m:Nat×Nat}{since stepped clk:Nat}{seen:List Nat}{es:List (V×V)}{bs:List Nat}(h1:g f s=some (.iter (some m) since seen stepped))(h2:g m.1 m.2=some (.map es bs clk))
 (h3:∀b∈bs,b<since)(h4:since<=stepped):∃cs,Y5 g (.ptr f s 0)=some cs/\∀c∈cs,(Kh seen es bs=[]/\c=(.tuple [.bool false],some (f,s,.dead)))\/
   ∃e∈Kh seen es bs,c=(.tuple [.bool true,e.1.1,e.1.2],some (f,s,.iter (some m) since (seen++[e.2]) clk)):=by
 have hall:(bs.all (fun b=>decide (b<since))&&decide (since<=stepped))=true:=by rw[Zr1,Zr2];exact⟨fun b hb=>Zum (h3 b hb),Zum h4⟩
 simp only[Y5,h1,h2,hall,if_true];cases hl:Kh seen es bs with
 |nil=>exact⟨_,rfl,fun c hc=> .inl ⟨rfl,Zr0.1 hc⟩⟩
 |cons y l=>
  refine⟨_,rfl,fun c hc=> .inr ?_⟩;obtain⟨e,he,rfl⟩:=Zr3.1 hc;exact⟨e,he,rfl⟩
end
def Ym(P:Program)(t:TypeId)(i:Nat):Option (Nat×TypeId):=
 match P.underlying t with
 |some (.struct fs)=>(match fs[i]? with
  |some f=>(match sz P f.type with
   |some n=>if n=0 then none else some (f.offset,f.type)
   |none=>none)
  |none=>none)
 |_=>none
def plOf(P:Program)(t:TypeId):Option (List (Nat×Nat)):=
 match P.underlying t with
 |some (.struct fs)=>Qoe P fs.toList
 |_=>none
def Yn(P:Program)(t:TypeId)(i:Nat):Option (Nat×TypeId):=
 match P.underlying t with
 |some (.struct fs)=>(match fs[i]? with
  |some f=>some (f.offset,f.type)
  |none=>none)
 |_=>none
def faV(off:Nat):V->Option V
 | .ptr a b o=>some (.ptr a b (o+off))
 | .iptr cs o=>some (.iptr cs (o+off))
 | .rptr cs o=>some (.rptr cs (o+off))
 |_=>none
def faO:Option (Nat×TypeId)->V->Option V
 |some x,v=>faV x.1 v
 |none,_=>none
def fvO(P:Program):Option (Nat×TypeId)->V->Option V
 |some x,.agg cs=>Qar P x.2 cs x.1
 |_,_=>none
section
variable {P : Program} {mt : Nat -> Bool} {fr : Nat} {g : Get} {r : Operand -> V} {d : Option Nat} {ty u : TypeId} {ps : String} {af : Array Edge} {gd : Option (Nat × Bool)} {x : Operand}
theorem ev_fa{t:TypeId}{i:Nat}:Zr P mt fr g r {dst:=d,op:= .fieldAddr t x i,type:=ty,pos:=ps,after:=af,guard:=gd}=(faO (Ym P t i) (r x)).map fun v=> .val v none:=by
 unfold Ym;simp only[Zr];cases P.underlying t with
 |none=>rfl
 |some dd=>
  cases dd with
  |struct fs=>
   simp only;cases fs[i]? with
   |none=>rfl
   |some f=>
    simp only;cases sz P f.type with
    |none=>rfl
    |some n=>
     simp only;by_cases h0:n=0
     . simp only[h0,if_true];rfl
     . simp only[h0,if_false];cases r x<;>rfl
  |_=>rfl
theorem Q8k{t:TypeId}{i:Nat}:Zr P mt fr g r {dst:=d,op:= .field t x i,type:=ty,pos:=ps,after:=af,guard:=gd}=(fvO P (Yn P t i) (r x)).map fun v=> .val v none:=by
 unfold Yn;simp only[Zr];cases P.underlying t with
 |none=>rfl
 |some dd=>
  cases dd with
  |struct fs=>
   cases r x<;>simp only<;>cases fs[i]?<;>rfl
  |_=>rfl
theorem Qji{t:TypeId}{z:List V}{ps:List (Nat×Nat)}(hz:zeroCells P t=some z)(hp:plOf P t=some ps)(parts:List (Nat×V)):K4 P t parts=(Bp (fun i=>ps[i]?) z parts).map .agg:=by
 unfold plOf at hp;unfold K4;rw[hz];split at hp
 case h_2=>cases hp
 rename_i fs hu;rw[hu];simp only[hp]
theorem fa_ptr{off a b o:Nat}:faV off (.ptr a b o)=some (.ptr a b (o+off)):=rfl
theorem Zdl{off o:Nat}{cs:List V}:faV off (.iptr cs o)=some (.iptr cs (o+off)):=rfl
theorem Zbs{off:Nat}{t:TypeId}{v:V}:faO (some (off,t)) v=faV off v:=rfl
theorem fv_agg{t:TypeId}{off:Nat}{cs:List V}:fvO P (some (off,t)) (.agg cs)=Qar P t cs off:=rfl
end
def ldO(P:Program)(t:TypeId)(o:Nat):Option O->Option V
 |some (.cells xs)=>Qn P t xs o
 |_=>none
def ldV(P:Program)(t:TypeId)(g:Get):V->Option V
 | .ptr f s o=>ldO P t o (g f s)
 | .iptr cs o=>Qn P t cs o
 | .rptr cs o=>Qn P t cs o
 |_=>none
def stO(n f s o:Nat)(cs:List V):Option O->Option Zk
 |some (.cells xs)=>if cs.length=n/\o+n<=xs.length then some (.val .bad (some (f,s,.cells (splice xs o cs)))) else none
 |_=>none
def stV(g:Get):Option Nat->V->Option (List V)->Option Zk
 |some n,.ptr f s o,some cs=>stO n f s o cs (g f s)
 |_,_,_=>none
section
variable {P : Program} {mt : Nat -> Bool} {fr : Nat} {g : Get} {r : Operand -> V} {d : Option Nat} {ty u : TypeId} {ps : String} {af : Array Edge} {gd : Option (Nat × Bool)} {x a : Operand}
theorem Zcg{t:TypeId}:Zr P mt fr g r {dst:=d,op:= .load t a,type:=ty,pos:=ps,after:=af,guard:=gd}=(ldV P t g (r a)).map fun v=> .val v none:=by
 simp only[Zr];cases r a with
 |ptr f s o=>
  simp only[ldV];cases g f s with
  |none=>rfl
  |some q=>cases q<;>rfl
 |_=>rfl
theorem Q9e{t:TypeId}:Zr P mt fr g r {dst:=d,op:= .store t a x,type:=ty,pos:=ps,after:=af,guard:=gd}=stV g (sz P t) (r a) (r x).cells:=by
 simp only[Zr];cases sz P t with
 |none=>cases r a<;>first|rfl|(cases(r x).cells<;>rfl)
 |some n=>
  cases r a with
  |ptr f s o=>
   cases(r x).cells with
   |none=>rfl
   |some cs=>
    simp only[stV];cases g f s with
    |none=>rfl
    |some q=>cases q<;>rfl
  |_=>rfl
theorem ld_ptr{t:TypeId}{f s o:Nat}:ldV P t g (.ptr f s o)=ldO P t o (g f s):=rfl
theorem Ze8{t:TypeId}{o:Nat}{cs:List V}:ldV P t g (.iptr cs o)=Qn P t cs o:=rfl
theorem Q63{t:TypeId}{o:Nat}{xs:List V}:ldO P t o (some (.cells xs))=Qn P t xs o:=rfl
theorem st_ptr{n f s o:Nat}{cs:List V}:stV g (some n) (.ptr f s o) (some cs)=stO n f s o cs (g f s):=rfl
theorem Q7d{n f s o:Nat}{cs xs:List V}:stO n f s o cs (some (.cells xs))=if cs.length=n/\o+n<=xs.length then some (.val .bad (some (f,s,.cells (splice xs o cs)))) else none:=rfl
theorem Qdz{t:TypeId}{dd:TypeDesc}{n:Nat}(h:P.underlying t=some dd)(hs:sz P t=some n)(ha:Qk1 dd=true)(cs:List V)(o:Nat):
 Qn P t cs o=if o+n<=cs.length then some (.agg ((cs.drop o).take n)) else none:=by
 simp only[Qn,h,hs,ha,if_true]
theorem Q58{cs:List V}:(V.agg cs).cells=if cs.all V.scalar then some cs else none:=rfl
theorem Zc2{b:Bool}:(V.bool b).scalar=true:=rfl
theorem sc_int{k:IntKind}{n:Int}:(V.int k n).scalar=true:=rfl
theorem sc_str{s:List UInt8}:(V.str s).scalar=true:=rfl
theorem Q6u:V.nP.scalar=true:=rfl
theorem sc_ptr{f s o:Nat}:(V.ptr f s o).scalar=true:=rfl
theorem Zcb{cs:List V}{o:Nat}:(V.iptr cs o).scalar=true:=rfl
theorem Qz5:V.nS.scalar=true:=rfl
theorem Q7h{cs:List V}{n:Nat}{b:Bool}:(V.iS cs n b).scalar=true:=rfl
theorem Q6t{f s o n:Nat}{c:Option Nat}{e:Nat}:(V.mS f s o n c e).scalar=true:=rfl
theorem Q52{f s n e:Nat}{cs:List V}:(V.gS f s cs n e).scalar=true:=rfl
theorem Q5u:V.nM.scalar=true:=rfl
theorem sc_map{f s:Nat}:(V.map f s).scalar=true:=rfl
theorem Zcp{f:Fn}{a b:List V}:(V.func f a b).scalar=true:=rfl
end
theorem Zcv{b:Bool}:unV .not (.bool b)=some (.bool !b):=rfl
abbrev Qmi:=And.intro @u_seq<|And.intro @Q9r<|And.intro @Zd1<|And.intro @w_op<|And.intro @us_val<|And.intro @Zco<|And.intro @Q97<|And.intro @uc_ret<|And.intro @uc_pan<|And.intro @w_cond<|And.intro @Zev<|And.intro @Q8f<|And.intro @w_opT<|And.intro @Zct<|And.intro @Zdo<|And.intro @Zak<|And.intro @Ze6<|And.intro @Zah<|And.intro @ugt_tt<|And.intro @ugt_ff<|And.intro @ugt_tf<|And.intro @ugt_ft<|And.intro @u_draw<|And.intro @Zd0<|And.intro @ug_tt<|And.intro @ug_ff<|And.intro @ug_tf<|And.intro @ug_ft<|And.intro @ug_no<|And.intro @ugt_no<|And.intro @w_loop<|And.intro @Zd5<|And.intro @Q7u<|And.intro @u_skip<|And.intro @u_ret<|And.intro @u_exit<|And.intro @u_nil<|And.intro @Q2r<|And.intro @Qy2<|And.intro @Qvb<|And.intro @Qo4<|And.intro @Qw2<|And.intro @Qrq<|And.intro @Qvu<|And.intro @b_add<|And.intro @b_sub<|And.intro @b_mul<|And.intro @b_eql<|And.intro @b_neq<|And.intro @b_lss<|And.intro @b_leq<|And.intro @b_gtr<|And.intro @b_geq<|And.intro @b_sadd<|And.intro @b_seql<|And.intro @b_sneq<|And.intro @oc_int<|And.intro @Zcz<|And.intro @oc_str<|And.intro @Qwy<|And.intro @Q6a<|And.intro @Q7j<|And.intro @Q0z<|And.intro @Q3b<|And.intro @bi_len<|And.intro @bi_max<|And.intro @bi_min<|And.intro @mx_nil<|And.intro @mx_one<|And.intro @Q0m<|And.intro @Qvl<|And.intro @Zd6<|And.intro @Zbv<| @Zcn
abbrev Qgq:=And.intro @Zcv<|And.intro @Zbs<|And.intro @fa_ptr<|And.intro @Zdl<|And.intro @fv_agg<|And.intro @ld_ptr<|And.intro @Ze8<|And.intro @Q63<|And.intro @st_ptr<|And.intro @Q58<|And.intro @Zc2<|And.intro @sc_int<|And.intro @sc_str<|And.intro @Q6u<|And.intro @sc_ptr<|And.intro @Zcb<|And.intro @Qz5<|And.intro @Q7h<|And.intro @Q6t<|And.intro @Q52<|And.intro @Q5u<|And.intro @sc_map<| @Zcp
abbrev walkB:=And.intro @Q54<|And.intro @Q2s<|And.intro @Q6o<|And.intro @Qv0<|And.intro @Q7c<|And.intro @Q10<|And.intro @Qpv<|And.intro @Qvt<|And.intro @Qtr<|And.intro @Qts<|And.intro @Quv<|And.intro @Q59<|And.intro @Q1u<|And.intro @Qq8<|And.intro @Qq4<| @Q06
abbrev Qe2:=And.intro @List.getD_cons_zero.{0}<|And.intro @List.getD_cons_succ.{0}<|And.intro @List.set_cons_zero.{0}<|And.intro @List.set_cons_succ.{0}<|And.intro @List.map_cons.{0,0}<|And.intro @List.map_nil.{0,0}<|And.intro @Option.map_some.{0,0}<|And.intro @Option.map_none.{0,0}<|And.intro @Option.bind_some.{0,0}<|And.intro @Option.bind_none.{0,0}<|And.intro @List.length_nil.{0}<|And.intro @List.length_cons.{0}<|And.intro @List.nil_append.{0}<|And.intro @List.cons_append.{0}<|And.intro @List.append_nil.{0}<|And.intro @List.replicate_succ.{0}<|And.intro @List.replicate_zero.{0}<|And.intro @List.getElem?_cons_zero.{0}<|And.intro @List.getElem?_cons_succ.{0}<| @List.getElem?_toArray.{0}
section
variable {P : Program} {pol : Pol} {C : Call} {L : Ka -> Kw} {fn fr : Nat} {t : List V} {H : Heap} {d : Option Nat} {k : List It} {Q : Ex -> List V -> Heap -> Prop} {a : Array Oper} {r : List Oper} {T : List FP} {o : Oper}
theorem W.guardX{b want:Bool}(h1:b=want->W (U P pol C L fn fr (.opsT a (o::r) T::k) .normal t H) Q)(h2:b=(!want)->W (U P pol C L fn fr (.opsT a r (.quiet::T)::k) .normal (Qu t d nov) H) Q):W (UGT P pol C L fn fr (some (.bool b)) want o d a r T k t H) Q:=by
 unfold UGT;by_cases h:b=want
 . simp only[h,if_true];exact h1 h
 . simp only[h,if_false];exact h2 (by cases b<;>cases want<;>simp_all)
theorem W.guardXT{b:Bool}(h1:b=true->W (U P pol C L fn fr (.opsT a (o::r) T::k) .normal t H) Q)(h2:b=false->W (U P pol C L fn fr (.opsT a r (.quiet::T)::k) .normal (Qu t d nov) H) Q):W (UGT P pol C L fn fr (some (.bool b)) true o d a r T k t H) Q:=W.guardX h1 h2
theorem W.guardXF{b:Bool}(h1:b=false->W (U P pol C L fn fr (.opsT a (o::r) T::k) .normal t H) Q)(h2:b=true->W (U P pol C L fn fr (.opsT a r (.quiet::T)::k) .normal (Qu t d nov) H) Q):W (UGT P pol C L fn fr (some (.bool b)) false o d a r T k t H) Q:=W.guardX h1 h2
theorem Qy8{f:FuncId}{args args' :List V}{v v' :V}{H' :Heap}(hp:pol.prim f=none)(hq:pol.pure fn f=false)(hl:pol.lift fn f=false)(hk:pol.look fn f=true)(ha:Qt (frz (Qd H) depth) args=some args')(h:Qp P pol f args' []=some (.ret v,H'))(hv:frzN (Qd H') depth v=some v'):
 callOp pol (Qp P pol) fn fr d f args H=some (.ret v',H):=by
 simp only[callOp,hp,hq,hl,hk,if_true,ha,Zre,if_false,h,hv,Zrb]
theorem W.opsK1(h:okK (Region.before a) ((loud T.reverse).map fun x=>(x.1.kind,x.2))=true)(h2:True->W (U P pol C L fn fr k .normal t H) Q):W (U P pol C L fn fr (.opsT a [] T::k) .normal t H) Q:=
 W.opsK h (h2 trivial)
end
abbrev ai{p q:Prop}(h:p)(k:q):p/\q:=⟨h,k⟩
abbrev Qfd:=ai @decide_true<|ai @decide_false<|ai @eq_self.{1}<|ai @Bool.not_true<|ai @Bool.not_false<|ai @Q7d<|ai @List.all_cons.{0}<|ai @List.all_nil.{0}<|ai @Bool.and_self<|ai @Bool.and_true<|ai @Bool.false_eq_true<| @Zdw
abbrev Qc:=ai @ev_fa<|ai @Q8k<|ai @Zcg<| @Q9e
abbrev walkH:=ai @List.modify_zero_cons.{0}<|ai @List.modify_succ_cons.{0}<|ai @List.modify_cons.{0}<|ai @Nat.lt_irrefl<|ai @Nat.not_lt_zero<| @Nat.lt_add_one
abbrev walkE:=ai @Nat.one_ne_zero<|ai @and_self<|ai @and_true<|ai @true_and<|ai @List.take_zero.{0}<|ai @List.drop_succ_cons.{0}<|ai @List.drop_zero.{0}<|ai @List.take_succ_cons.{0}<|ai @List.replicate_one.{0}<|ai @List.drop_nil.{0}<|ai @List.take_nil.{0}<|ai @Nat.le_refl<|ai @Nat.zero_add<|ai @Nat.zero_mul<|ai @Nat.one_mul<| @Nat.mul_one
abbrev Jy:=ai @Bool.or_true<|ai @Bool.true_or<|ai @Bool.or_false<|ai @Bool.false_or<|ai @Bool.and_true<|ai @Bool.true_and<|ai @Bool.and_false<|ai @Bool.false_and<|ai @Bool.not_true<|ai @Bool.not_false<| @Bool.false_eq_true
abbrev walkG:=ai @Qo8<|ai @J6<|ai @Qyq<|ai @X8<|ai @Q7z<|ai @Q68<|ai @Q5i<|ai @Q5g<|ai @Nat.lt_irrefl<|ai @Nat.not_lt_zero<| @Nat.lt_add_one
abbrev wS:=ai Qmi<|ai Qe2<|ai Qfd<|ai @Q9.eq_1<|ai @Q9.eq_2<|ai @Q9.eq_3<|ai @Q9.eq_4<|ai @Q9.eq_5<|ai @Q9.eq_6<|ai @Q9.eq_7<|ai @Q9.eq_8<|ai @Q9.eq_9<|ai @Q9.eq_10<|ai @Q9.eq_11<|ai @Q9.eq_12<|ai @Q9.eq_13<|ai @Q9.eq_14<|ai @Q9.eq_15<|ai @Q9.eq_16<|ai @Q9.eq_17<|ai @Y9.eq_1<|ai @Y9.eq_2<|ai @nov.eq_1<|ai @gd.eq_1<|ai @rho.eq_1<|ai @rho.eq_2<|ai @rho.eq_3<|ai @rho.eq_4<|ai @Qu.eq_1<|ai @Qu.eq_2<|ai @wr.eq_1<|ai @wr.eq_2<| @Zr.eq_1
abbrev wA:=ai wS Qgq
abbrev wH:=ai walkH<|ai @new.eq_1<|ai @new.eq_2<|ai @Qd.eq_1<|ai @hset.eq_1<|ai @Bi.eq_1<|ai @Bi.eq_2<|ai @Kf.eq_1<| @Kf.eq_2
abbrev wZ:=ai walkB<|ai walkE<|ai @zerosN.eq_1<|ai @zerosN.eq_2<|ai @Bp.eq_1<|ai @Bp.eq_2<|ai @Qx.eq_1<|ai @Qx.eq_2<|ai @V.pure.eq_1<|ai @V.pure.eq_2<|ai @V.pure.eq_3<|ai @V.pure.eq_4<|ai @V.pure.eq_5<|ai @V.pure.eq_6<|ai @V.pure.eq_7<|ai @V.pure.eq_8<|ai @V.pure.eq_9<|ai @V.pure.eq_10<| @V.pure.eq_11
abbrev wB:=ai wZ @splice.eq_1
abbrev wG:=ai walkG<|ai @new.eq_1<|ai @new.eq_2<|ai @Bi.eq_1<|ai @Bi.eq_2<|ai @Kf.eq_1<| @Kf.eq_2
section
variable {P : Program} {E : Env} {B : Nat} {F : Nat -> Nat -> Prop} {H : Heap}
end
def Qbf(L:List (Int×V))(c:List V)(b:Nat):List V:=match L[b]? with
 |some (k,v)=>c.set k.toNat v
 |none=>c
def Z7(L:List (Int×V))(seen:List Nat)(rv:List V):List V:=seen.foldl (Qbf L) rv
theorem Qz2(L:List (Int×V))(seen:List Nat)(b:Nat)(rv:List V)(k:Int)(v:V)(h:L[b]?=some (k,v)):Z7 L (seen++[b]) rv=(Z7 L seen rv).set k.toNat v:=by simp only[Z7,List.foldl_append,Zr8,List.foldl_nil,Qbf,h]
theorem B3(L:List (Int×V)):∀(seen:List Nat) (rv:List V),(Z7 L seen rv).length=rv.length
 |[],rv=>rfl
 |b::seen,rv=>by
  show(Z7 L seen (Qbf L rv b)).length=_;rw[B3 L seen];unfold Qbf;split
  . rw[Zs5]
  . rfl
theorem Qb5(L:List (Int×V))(i:Nat):∀(seen:List Nat) (rv:List V),(∀b∈seen,∀k v,L[b]?=some (k,v)->k.toNat≠i)->(Z7 L seen rv)[i]?=rv[i]?
 |[],rv,_=>rfl
 |b::seen,rv,h=>by
  show(Z7 L seen (Qbf L rv b))[i]?=_;rw[Qb5 L i seen _ (fun c hc=>h c (Zrz _ hc))];unfold Qbf;split
  . rename_i k v hk;rw[Zs6,if_neg (h b (by simp) k v hk)]
  . rfl
theorem Qf2(L:List (Int×V))(hd:∀(b c:Nat) (k:Int) (v w:V),L[b]?=some (k,v)->L[c]?=some (k,w)->b=c)(h0:∀(b:Nat) (k:Int) (v:V),L[b]?=some (k,v)->0<=k){b:Nat}{k:Int}{v:V}(hL:L[b]?=some (k,v)):
 ∀(seen:List Nat) (rv:List V),b∈seen->k.toNat<rv.length->(Z7 L seen rv)[k.toNat]?=some v
 |[],_,h,_=>by cases h
 |c::seen,rv,h,hi=>by
  show(Z7 L seen (Qbf L rv c))[k.toNat]?=_;by_cases hs:b∈seen
  . refine Qf2 L hd h0 hL seen _ hs ?_;unfold Qbf;split
    . rw[Zs5];exact hi
    . exact hi
  . have hc:b=c:=by
     rcases Zrx.1 h with h|h
     . exact h
     . exact absurd h hs
    subst hc;rw[Qb5 L]
    . simp only[Qbf,hL];rw[Zs6,if_pos rfl,if_pos hi]
    . intro c hcs k' v' hk' e;have:k' =k:=by have:=h0 _ _ _ hL;have:=h0 _ _ _ hk';omega
      subst this;exact hs (hd _ _ _ _ _ hL hk' ▸hcs)
theorem Q2i(L:List (Int×V))(hd:∀(b c:Nat) (k:Int) (v w:V),L[b]?=some (k,v)->L[c]?=some (k,w)->b=c)(h0:∀(b:Nat) (k:Int) (v:V),L[b]?=some (k,v)->0<=k)(seen:List Nat)(hall:∀b,b<L.length->b∈seen)(rv:List V)(hk:∀(b:Nat) (k:Int) (v:V),L[b]?=some (k,v)->k.toNat<rv.length):
 Z7 L seen rv=Z7 L (List.range L.length) rv:=by
 apply Zs7;intro i;by_cases h:∃(b:Nat) (k:Int) (v:V),L[b]?=some (k,v)/\k.toNat=i
 . obtain⟨b,k,v,hL,rfl⟩:=h;have hb:b<L.length:=(Zsm.1 hL).1;rw[Qf2 L hd h0 hL seen rv (hall b hb) (hk _ _ _ hL),Qf2 L hd h0 hL _ rv (Zs8.2 hb) (hk _ _ _ hL)]
 . have hm:∀s:List Nat,∀b∈s,∀k v,L[b]?=some (k,v)->k.toNat≠i:=fun s b _ k v hL e=>h ⟨b,k,v,hL,e⟩;rw[Qb5 L i _ _ (hm _),Qb5 L i _ _ (hm _)]
theorem Qsk(seen:List Nat):∀(es:List (V×V)) (i:Nat) (x:(V×V)×Nat),x∈Kh seen es (List.range' i es.length)->i<=x.2/\es[x.2-i]?=some x.1/\x.2∉seen
 |[],_,x,h=>by cases h
 |e::es,i,x,h=>by
  simp only[Zrs,Zrt,Kh] at h;have next:x∈Kh seen es (List.range' (i+1) es.length)->i<=x.2/\(e::es)[x.2-i]?=some x.1/\x.2∉seen:=by
   intro h;obtain⟨h1,h2,h3⟩:=Qsk seen es (i+1) x h;refine⟨by omega,?_,h3⟩;have e:x.2-i=(x.2-(i+1))+1:=by omega
   rw[e];exact h2
  split at h
  . exact next h
  . rename_i hc;rcases Zrx.1 h with rfl|h
    . exact⟨Zrf _,by simp,by simpa using hc⟩
    . exact next h
theorem Qsm(seen:List Nat):∀(es:List (V×V)) (i:Nat),Kh seen es (List.range' i es.length)=[]->∀b,i<=b->b<i+es.length->b∈seen
 |[],_,_,b,h1,h2=>by simp at h2;omega
 |e::es,i,h,b,h1,h2=>by
  simp only[Zrs,Zrt,Kh] at h h2;split at h
  . rename_i hc;by_cases e:b=i
    . subst e;simpa using hc
    . exact Qsm seen es (i+1) h b (by omega) (by omega)
  . cases h
theorem Qx7(seen:List Nat)(c:Nat):∀(es:List (V×V)) (bs:List Nat),(Kh (seen++[c]) es bs).length<=(Kh seen es bs).length
 |[],bs=>by cases bs<;>simp[Kh]
 |e::es,[]=>by simp[Kh]
 |e::es,b::bs=>by
  have:=Qx7 seen c es bs;simp only[Kh];split<;>split
  . exact this
  . simp only[Zrs];omega
  . rename_i h1 h2;simp at h1 h2;exact absurd h2 h1.1
  . simp only[Zrs];omega
theorem Qjn(seen:List Nat)(x:(V×V)×Nat):∀(es:List (V×V)) (bs:List Nat),x∈Kh seen es bs->(Kh (seen++[x.2]) es bs).length<(Kh seen es bs).length
 |[],bs,h=>by cases bs<;>simp[Kh] at h
 |e::es,[],h=>by simp[Kh] at h
 |e::es,b::bs,h=>by
  have le:=Qx7 seen x.2 es bs;simp only[Kh] at h⊢;by_cases hb:seen.contains b=true
  . have hb2:(seen++[x.2]).contains b=true:=by simp at hb⊢;exact .inl hb
    simp only[hb,hb2,if_true] at h⊢;exact Qjn seen x es bs h
  . simp only[hb,Zre,if_false] at h⊢;rcases Zrx.1 h with rfl|h
    . have:(seen++[b]).contains b=true:=by simp
      simp only[this,if_true,Zrs];simp only at le;omega
    . have:=Qjn seen x es bs h;split<;>simp only[Zrs]<;>omega
theorem Qpp(b:Nat):∀(es:List (V×V)) (i:Nat),i<=b->Qck b es (List.range' i es.length)=es[b-i]?
 |[],i,h=>by simp[Qck]
 |e::es,i,h=>by
  simp only[Zrs,Zrt,Qck];split
  . rename_i q;subst q;simp
  . have q:b-i=(b-(i+1))+1:=by omega
    rw[q,Qpp b es (i+1) (by omega)];rfl
structure Zq where
 at_:Int
 birth:Int
 iv:Int
 tag:Int
 sum:Int
 deriving DecidableEq
def Zq.cells(p:Zq):List V:=[.int .i64 p.at_,.int .u32 p.birth,.int .u32 p.iv,.int .u32 p.tag,.int .u32 p.sum]
def J3:Zq:=⟨0,0,0,0,0⟩
def Q0y(p:Zq):Bool:=decide (p.at_<12)||(decide (p.at_>=256)||(decide (p.birth<1)||decide (p.birth>16777215)))
def Yp(p:Zq):Bool:=decide (p=J3)||!Q0y p
def okE(b:Bool):Int:=if b then 0 else 8
def Qal(a b:Int):Int:=if decide (a<b) then-1 else if decide (a>b) then 1 else 0
def Qdf:List Int->Int
 |[]=>0
 |x::r=>if x !=0 then x else Qdf r
def Qku(v:V)(n:Nat):Prop:=∃cells,Q0 1 v cells n
structure Zt where
 id:Int
 kind:Int
 owner:Int
 prev:Int
 txg:Int
 guid:Int
 key:Int
 root:Zq
 dead:List Zq
 deriving DecidableEq
def Zg(l:List Zq):List V:=l.flatMap Zq.cells
def Zu(l:Zt)(dv:V):List V:= .int .i64 l.id:: .int .u8 l.kind:: .int .i64 l.owner:: .int .i64 l.prev:: .int .u32 l.txg:: .int .u32 l.guid:: .int .i64 l.key:: .int .i64 l.root.at_:: .int .u32 l.root.birth:: .int .u32 l.root.iv:: .int .u32 l.root.tag:: .int .u32 l.root.sum::[dv]
def Jn(v:V)(l:List Zq):Prop:=Q0 5 v (Zg l) l.length
def LinesC:List V->List Zt->Prop
 |cs,[]=>cs=[]
 |cs,l::ls=>∃dv d,cs=Zu l dv++d/\Jn dv l.dead/\LinesC d ls
def Qij(v:V)(ls:List Zt):Prop:=∃cs,LinesC cs ls/\Q0 13 v cs ls.length
def Qe3(c:Nat->Int):Nat->Nat->Nat->Nat
 |0,i,_=>i
 |n+1,i,j=>if i<j then(if decide (c ((i+j)/2)<0) then Qe3 c n ((i+j)/2+1) j else Qe3 c n i ((i+j)/2)) else i
def bs(c:Nat->Int)(n:Nat):Nat:=Qe3 c n 0 n
def Qb0(c:Nat->Int)(n:Nat):Bool:=decide (bs c n<n)&&decide (c (bs c n)=0)
def B7(ls:List Zt)(id:Int)(i:Nat):Int:=match ls[i]? with
 |some l=>Qal l.id id
 |none=>0
def Qc9(ls:List Zt)(id:Int):Option Nat:=if Qb0 (B7 ls id) ls.length then some (bs (B7 ls id) ls.length) else none
def Xl(ls:List Zt)(id:Int):Option Zt:=match Qc9 ls id with
 |some i=>ls[i]?
 |none=>none
def Qs6(ls:List Zt)(x:Zt):Bool:=match Xl ls x.owner with
 |none=>false
 |some o=>if(o.kind !=1)||((x.kind==1)&&(x.owner !=x.id)) then false else if x.prev==0 then true else match Xl ls x.prev with
  |none=>false
  |some p=>if(p.kind !=2)||(p.key !=x.key) then false else decide (p.txg<x.txg)||((p.txg==x.txg)&&(x.kind==1))
def Qht:Option Zq->List Zq->Bool
 |_,[]=>true
 |o,p::r=>if decide (p=J3)||(!(Yp p)||(match o with|some q=>decide (Qal q.at_ p.at_>=0)|none=>false)) then false else Qht (some p) r
def Qmc(l:List Zq):Bool:=if decide ((l.length:Int)>240) then false else Qht none l
def before{α:Type}(l:List α)(i:Nat):Option α:=match i with|0=>none|k+1=>l[k]?
def Qa8:Option Zt->List Zt->Bool
 |_,[]=>true
 |o,x::r=>if decide (x.id<1)||(decide (x.id>255)||((match o with|some q=>decide (x.id<=q.id)|none=>false)||((x.kind !=1)&&(x.kind !=2)))) then false else Qa8 (some x) r
def Qfv(all:List Zt)(x:Zt):Bool:=decide (x.txg>16777215)||(decide (x.key<0)||(decide (x.key>=8)||(!(Yp x.root)||(!(Qmc x.dead)|| !(Qs6 all x)))))
def Qdk(all:List Zt):List Zt->Bool
 |[]=>true
 |x::r=>if Qfv all x then false else Qdk all r
def Xw(ls:List Zt):Bool:=if decide ((ls.length:Int)>16) then false else if Qa8 none ls then Qdk ls ls else false
structure Zf where
 set:Int
 obj:Int
 index:Int
 kind:Int
 links:Int
 size:Int
 n:Nat
 laid:Zq
 deriving DecidableEq
def Za(c:Zf)(dv:V):List V:= .int .i64 c.set:: .int .i64 c.obj:: .int .i64 c.index:: .int .u8 c.kind:: .int .i64 c.links:: .int .i64 c.size::dv:: .int .i64 c.laid.at_:: .int .u32 c.laid.birth:: .int .u32 c.laid.iv:: .int .u32 c.laid.tag::[.int .u32 c.laid.sum]
def J8(c:Zf):Bool:=
 if decide (c.obj<0)||(decide (c.obj>=16)||(decide (c.index<0)||decide (c.index>15))) then false
 else if c.index==15 then
  (decide (c.kind<=7)&&(decide ((if c.size<c.links then c.size else c.links)>=0)&&(decide (c.links<=255)&&decide (c.size<=3840))))&&(((c.n:Int)==0)&&(decide (c.laid=J3)&&(decide (c.kind>0)||((c.kind==0)&&((c.links==0)&&(c.size==0))))))
 else((c.kind==0)&&((c.links==0)&&(c.size==0)))&&((((c.n:Int)==0)||((c.n:Int)==256))&&Yp c.laid)
def Qep(a b:Zf):Int:=Qdf [Qal a.set b.set,Qal a.obj b.obj,Qal a.index b.index]
def Bj(many:Int)(k:List UInt8):Bool:=decide ((k.length:Int)>0)&&(((k.length:Int) !=many)||((many==24)&&decide (k=List.replicate 24 0)))
def Qcl(l:List (List UInt8))(many:Int):Bool:=((l.length:Int)==8)&& !(l.any (Bj many))
def Qkr:List V->List (List UInt8)->Prop
 |cs,[]=>cs=[]
 |cs,x::r=>∃v d,cs=v::d/\Qf v x/\Qkr d r
def Kt(v:V)(l:List (List UInt8)):Prop:=∃cs,Qkr cs l/\Q0 1 v cs l.length
def Zj{α:Type}(p:α->Bool):Nat->List α->Int
 |_,[]=> -1
 |i,x::r=>if p x then(i:Int) else Zj p (i+1) r
def Xx(l:List UInt8):Bool:=l.length==256&&l.all (fun b=>b<=2)&&((l.take 12).count 1==12)
def Qga(space:List UInt8)(i:Nat):Int:=(((space.getD i 0).toNat:Nat):Int)
def Qad(d:Int)(tab:Bool)(epoch count:Int):Bool:= !((d !=0)||(!tab||(decide (epoch<1)||(decide (epoch>65535)||decide (count>65535)))))
def Yu(nid ng:Int)(x:Zt):Bool:=decide (x.id>=nid)||decide (x.guid>=ng)
structure Qpc where
 epoch:Int
 count:Int
 gen:Int
 root:Zq
 own:List Int
 lines:List Zt
 keys:List (List UInt8)
 loaded:List (List UInt8)
 changes:List Zf
 logged:Int
 nextId:Int
 nextGuid:Int
def ChangesC:List V->List Zf->Prop
 |cs,[]=>cs=[]
 |cs,c::r=>∃dv d,cs=Za c dv++d/\Qku dv c.n/\ChangesC d r
def Qmr(v:V)(ls:List Zf):Prop:=∃cs,ChangesC cs ls/\Q0 12 v cs ls.length
def Zd(bv wv sv mv lv kv ov cv:V)(p:Qpc):List V:=bv::wv::sv:: .int .u32 p.epoch:: .int .u32 p.count:: .int .u32 p.gen:: .int .i64 p.root.at_:: .int .u32 p.root.birth:: .int .u32 p.root.iv:: .int .u32 p.root.tag:: .int .u32 p.root.sum::mv::lv::kv::ov::cv:: .int .i64 p.logged:: .int .i64 p.nextId::[.int .u32 p.nextGuid]
def Qi9(sp:Nat->Int):Option Int->List Int->Bool
 |_,[]=>true
 |o,a::r=>if decide (a<12)||(decide (a>=256)||((match o with|some q=>decide (a<=q)|none=>false)||(sp a.toNat !=1))) then false else Qi9 sp (some a) r
def Qfl(lines:List Zt):Option Zf->List Zf->Bool
 |_,[]=>true
 |o,c::r=>if(match Xl lines c.set with|none=>true|some l=>l.kind !=1)||(!(J8 c)||(match o with|some q=>decide (Qep q c>=0)|none=>false)) then false else Qfl lines (some c) r
def Qn0(d:Int)(tab:Bool)(p:Qpc):Bool:=(!(Qad d tab p.epoch p.count))||(decide (p.gen>16777215)||(!(Yp p.root)||(decide (p.root=J3) !=(p.gen==0))))
def Qmg(p:Qpc):Bool:=(!(Xw p.lines))||((!(Qcl p.keys 24))||((!(Qcl p.loaded 16))||(decide (p.logged<0)||(decide (p.logged>8)||(decide (p.nextId<1)||decide (p.nextId>256))))))
def Qf9(d:Int)(tab:Bool)(sp:Nat->Int)(p:Qpc):Bool:=if Qn0 d tab p then false else if Qi9 sp none p.own then(if Qmg p then false else if Qfl p.lines none p.changes then !(p.lines.any (Yu p.nextId p.nextGuid)) else false) else false
theorem Ze{esz n:Nat}{v:V}{cells:List V}(h:Q0 esz v cells n):v.scalar=true:=by obtain⟨_,⟨rfl,_⟩|⟨f,rfl⟩⟩:=h<;>rfl
theorem Qbx{g:Get}{l:Zt}{dv:V}(hd:Jn dv l.dead):frz g depth (.agg (Zu l dv))=some (.agg (Zu l dv)):=by
 have:=hd.frz (g:=g) 10;show Option.map V.agg (Qt (frz g 11) (Zu l dv))=_;have e:Qt (frz g 11) (Zu l dv)=some (Zu l dv):=by
  simp only[Zu]
  repeat' (first|refine Qa rfl ?_|refine Qa this ?_|rfl)
 rw[e];rfl
theorem LinesC.len:∀{ls:List Zt} {cs:List V},LinesC cs ls->cs.length=ls.length*13
 |[],cs,h=>by
  have:cs=[]:=h;subst this;rfl
 |x::rs,cs,h=>by
  obtain⟨dv,d,rfl,h1,h2⟩:=h;have:=h2.len;simp only[Zsi,Zrs,Zs9,Zu];omega
theorem LinesC.at_:∀{ls:List Zt} {cs:List V} {i:Nat} {l:Zt},LinesC cs ls->ls[i]?=some l->∃dv,(cs.drop (i*13)).take 13=Zu l dv/\Jn dv l.dead
 |[],cs,i,r,h,hi=>by simp at hi
 |x::rs,cs,0,r,h,hi=>by
  obtain⟨dv,d,rfl,h1,h2⟩:=h;simp only[List.getElem?_cons_zero,Zui] at hi;subst hi;exact⟨dv,by rfl,h1⟩
 |x::rs,cs,i+1,r,h,hi=>by
  obtain⟨dv,d,rfl,h1,h2⟩:=h;simp only[List.getElem?_cons_succ] at hi;rw[show(i+1)*13=(Zu x dv).length+i*13 by simp[Zu];omega,<-Zsh,List.drop_left];exact LinesC.at_ h2 hi
theorem Qin(c:Nat->Int):∀(n m i j:Nat),j-i<=n->j-i<=m->Qe3 c n i j=Qe3 c m i j
 |0,0,i,j,h,h2=>rfl
 |0,m+1,i,j,h,h2=>by simp only[Qe3];rw[if_neg (by omega)]
 |n+1,0,i,j,h,h2=>by simp only[Qe3];rw[if_neg (by omega)]
 |n+1,m+1,i,j,h,h2=>by
  simp only[Qe3];by_cases h1:i<j
  . rw[if_pos h1,if_pos h1,Qin c n m _ _ (by omega) (by omega),Qin c n m i _ (by omega) (by omega)]
  . rw[if_neg h1,if_neg h1]
theorem Q12{c:Nat->Int}{i j:Nat}(h:i<j)(h2:decide (c ((i+j)/2)<0)=true):Qe3 c (j-i) i j=Qe3 c (j-((i+j)/2+1)) ((i+j)/2+1) j:=by obtain⟨m,hm⟩:∃m,j-i=m+1:=⟨j-i-1,by omega⟩;rw[hm];simp only[Qe3];rw[if_pos h,if_pos h2];exact Qin c _ _ _ _ (by omega) (by omega)
theorem Q2d{c:Nat->Int}{i j:Nat}(h:i<j)(h2:decide (c ((i+j)/2)<0)=false):Qe3 c (j-i) i j=Qe3 c ((i+j)/2-i) i ((i+j)/2):=by obtain⟨m,hm⟩:∃m,j-i=m+1:=⟨j-i-1,by omega⟩;rw[hm];simp only[Qe3];rw[if_pos h,if_neg (by simp only[h2];decide)];exact Qin c _ _ _ _ (by omega) (by omega)
theorem Q0q(n:Nat):Qen .shr .u64 (n:Int) 1=some (.int .u64 ((n/2:Nat):Int)):=by
 have e:min (1:Int).toNat (IntKind.u64).bits=1:=rfl;have e2:(n:Int).fdiv (2^1)=((n/2:Nat):Int):=by rw[Int.fdiv_eq_ediv_of_nonneg _ (by decide)];omega
 simp only[Qen,e,e2];rw[if_neg (by omega)]
theorem Qmp{ls:List Zt}{id:Int}{i:Nat}(h:Qc9 ls id=some i):i<ls.length:=by
 unfold Qc9 at h;split at h
 . rename_i hb;cases h;simp only[Qb0,Zr1] at hb;exact of_decide_eq_true hb.1
 . cases h
theorem LinesC.cells{ls:List Zt}{cs:List V}{i:Nat}(h:LinesC cs ls)(hi:i<ls.length):
 cs[i*13]?=some (.int .i64 ls[i].id)/\cs[i*13+1]?=some (.int .u8 ls[i].kind)/\cs[i*13+4]?=some (.int .u32 ls[i].txg)/\cs[i*13+6]?=some (.int .i64 ls[i].key):=by
 obtain⟨dv,h1,h2⟩:=h.at_ (Zra hi);have key:∀k,k<13->cs[i*13+k]?=(Zu ls[i] dv)[k]?:=fun k hk=>by rw[<-h1,Zrn,if_pos hk,Zta]
 exact⟨key 0 (by decide),key 1 (by decide),key 4 (by decide),key 6 (by decide)⟩
theorem Br(l:List Zq):(Zg l).length=l.length*5:=by
 induction l with
 |nil=>rfl
 |cons x r ih=>
  have e:Zg (x::r)=x.cells++Zg r:=rfl;rw[e,Zsi,ih,Zrs];have:x.cells.length=5:=rfl;omega
theorem Qkq:∀(l:List Zq) (i:Nat) (h:i<l.length),((Zg l).drop (i*5)).take 5=l[i].cells
 |x::r,0,h=>by rfl
 |x::r,i+1,h=>by
  have e:Zg (x::r)=x.cells++Zg r:=rfl;have e2:(i+1)*5=x.cells.length+i*5:=by have:x.cells.length=5:=rfl;omega
  rw[e,e2,<-Zsh,List.drop_left];exact Qkq r i (by simpa using h)
theorem Xr(b:Bool):(okE b !=0)=!b:=by cases b<;>rfl
theorem Za2(b:Bool):(okE b==0)=b:=by cases b<;>rfl
theorem Qdq{g:Get}{c:Zf}{dv:V}(hd:Qku dv c.n):frz g depth (.agg (Za c dv))=some (.agg (Za c dv)):=by
 obtain⟨cells,hd⟩:=hd;have:=Q0.frz (g:=g) hd 10;show Option.map V.agg (Qt (frz g 11) (Za c dv))=_;have e:Qt (frz g 11) (Za c dv)=some (Za c dv):=by
  simp only[Za]
  repeat' (first|refine Qa rfl ?_|refine Qa this ?_|rfl)
 rw[e];rfl
theorem Qkr.len:∀{l:List (List UInt8)} {cs:List V},Qkr cs l->cs.length=l.length
 |[],cs,h=>by
  have:cs=[]:=h;subst this;rfl
 |x::r,cs,h=>by
  obtain⟨v,d,rfl,h1,h2⟩:=h;simp only[Zrs,h2.len]
theorem Qkr.at_:∀{l:List (List UInt8)} {cs:List V} {i:Nat},Qkr cs l->(h:i<l.length)->∃v,cs[i]?=some v/\Qf v l[i]
 |x::r,cs,0,h,hi=>by
  obtain⟨v,d,rfl,h1,h2⟩:=h;exact⟨v,rfl,h1⟩
 |x::r,cs,i+1,h,hi=>by
  obtain⟨v,d,rfl,h1,h2⟩:=h;obtain⟨w,h3,h4⟩:=h2.at_ (i:=i) (by simpa using hi);exact⟨w,by simpa using h3,h4⟩
theorem Qm6{α:Type}(p:α->Bool):∀(l:List α) (i:Nat),(Zj p i l>=0)↔l.any p=true
 |[],i=>by simp[Zj]
 |x::r,i=>by
  have e:Zj p i (x::r)=if p x=true then(i:Int) else Zj p (i+1) r:=rfl
  by_cases h:p x=true
  . rw[e,if_pos h,List.any_cons,h];simp
  . have h' :p x=false:=by simpa using h
    rw[e,if_neg h,List.any_cons,h',Zs2];exact Qm6 p r (i+1)
theorem Qgs{α:Type}(p:α->Bool)(l:List α)(i:Nat):decide (Zj p i l>=0)=l.any p:=by rw[Bool.eq_iff_iff,decide_eq_true_eq];exact Qm6 p l i
theorem le2(b:UInt8):((b.toNat:Int)<=2)↔(b<=2):=by rw[UInt8.le_iff_toNat_le];simp;omega
theorem okE_if(b:Bool):(if b=true then(0:Int) else 8)=okE b:=rfl
theorem Q0c{F:AM.Frame}(hw:Zb (fun f _=>Nat.ble 1 f) F=true){n:Nat}(hn:1<=n):Zb (fun f _=>Nat.ble n f) F=true:=Qhy (Qb3 hn) F hw
theorem pop3{F G:AM.Frame}{v:V}(hv:v.refs (fun f _=>Nat.ble 3 f)=false)(hw:Zb (fun f _=>Nat.ble 1 f) F=true):Bb 3 v [F,[],[],G]=[F,[],[]]:=by refine Zl (H:=[F,[],[]]) (G:=[G]) hv ?_;show(Zb _ F&&true)=true;rw[Q0c hw (by simp)];rfl
theorem pop2{F G:AM.Frame}{v:V}(hv:v.refs (fun f _=>Nat.ble 2 f)=false)(hw:Zb (fun f _=>Nat.ble 1 f) F=true):Bb 2 v [F,[],G]=[F,[]]:=by refine Zl (H:=[F,[]]) (G:=[G]) hv ?_;show(Zb _ F&&true)=true;rw[Q0c hw (by simp)];rfl
theorem pop1{F G:AM.Frame}{v:V}(hv:v.refs (fun f _=>Nat.ble 1 f)=false)(hw:Zb (fun f _=>Nat.ble 1 f) F=true):Bb 1 v [F,G]=[F]:=by refine Zl (H:=[F]) (G:=[G]) hv ?_;show(Zb _ F&&true)=true;rw[Q0c hw (by simp)];rfl
theorem ChangesC.len:∀{ls:List Zf} {cs:List V},ChangesC cs ls->cs.length=ls.length*12
 |[],cs,h=>by
  have:cs=[]:=h;subst this;rfl
 |x::rs,cs,h=>by
  obtain⟨dv,d,rfl,h1,h2⟩:=h;have:=h2.len;simp only[Zsi,Zrs,Zs9,Za];omega
theorem ChangesC.at_:∀{ls:List Zf} {cs:List V} {i:Nat} {l:Zf},ChangesC cs ls->ls[i]?=some l->∃dv,(cs.drop (i*12)).take 12=Za l dv/\Qku dv l.n
 |[],cs,i,r,h,hi=>by simp at hi
 |x::rs,cs,0,r,h,hi=>by
  obtain⟨dv,d,rfl,h1,h2⟩:=h;simp only[List.getElem?_cons_zero,Zui] at hi;subst hi;exact⟨dv,by rfl,h1⟩
 |x::rs,cs,i+1,r,h,hi=>by
  obtain⟨dv,d,rfl,h1,h2⟩:=h;simp only[List.getElem?_cons_succ] at hi;rw[show(i+1)*12=(Za x dv).length+i*12 by simp[Za];omega,<-Zsh,List.drop_left];exact ChangesC.at_ h2 hi
def Qfo(c:Zf)(s o i:Int):Int:=Qdf [Qal c.set s,Qal c.obj o,Qal c.index i]
def cCh(ls:List Zf)(s o x:Int)(i:Nat):Int:=match ls[i]? with
 |some c=>Qfo c s o x
 |none=>0
end Go.AM
end
