/- This file holds in one the texts Bx30, Bx39, Bx31, Bx32, Bx34, Bx37, Jf; each says at its head what it proves. -/
import Derived.Test.YtjllfbejpjonnaaGreatDoorT16
import Derived.Test.YtjllfbejpjonnaaGreatDoorT18
import Derived.Test.YtjllfbejpjonnaaGreatDoorT19
import Derived.JoinedOf
set_option linter.unusedSimpArgs false
set_option linter.unusedVariables false
noncomputable section
section
namespace Go.AM.BM
section
variable {P : Program} {pol : Pol}
def Ans(P:Program)(f:FuncId)(xs:List V)(y:V):Prop:=
 y.pure=true/\∀(w:World) (M:Nat->Nat->Prop) (cargs:List Value),(∀b i,M b i->b<w.heap.size)->Qh (bare (Qt P) w M) xs cargs->
  AM.Invokes P f ⟨cargs⟩ w fun e w' =>∃c,e= .returned c/\Rel (bare (Qt P) w' M) y c/\Ext 0 w.heap.size (bare (Qt P) w M) (bare (Qt P) w' M)
theorem Qxz(T:FuncId->Nat->Option (Array Tmp×Code×Code))(w:World)(M:Nat->Nat->Prop)(hM:∀b i,M b i->b<w.heap.size):Sim w.heap.size M [] (bare T w M) where
 dom:=fun f s=>rfl
 bsz:=Nat.le_refl _
 fb:=hM
 fmod:=fun _ _ h=>h
 modsz:=hM
 obj:=fun f s o h=>by simp[Qd] at h
 nreg:=fun f s n x h=>by cases h
 inj:=fun f s o _ _ _ _ h=>by simp[Qd] at h
theorem Qrf{T T' :FuncId->Nat->Option (Array Tmp×Code×Code)}{w w' :World}{M:Nat->Nat->Prop}{B k:Nat}{E' :Env}(X:Ext k B (bare T w M) E')(hw:E'.w=w')(k' :Nat):Ext k' B (bare T' w M) (bare T' w' M):=by subst hw;exact⟨X.size,X.shape,X.cell,fun _ _ _ _ h=>h,fun _ _ _ _ h=>h,fun f s n b lo hi _ _ h=>⟨n,b,lo,hi,h,.inr ⟨rfl,rfl,rfl,rfl⟩⟩,X.old,X.rest,rfl,X.dfr⟩
theorem Qu5(ok:Okay P pol){m:Nat}{f:FuncId}{xs:List V}{v y:V}{H' :Heap}(h:Yh P pol m (some f) xs [[]]=some (.ret v,H'))(hz:frz (Qd H') depth v=some y)(hy:y.pure=true):Ans P f xs y:=by
 refine⟨hy,fun w M cargs hM hr=>?_⟩;obtain⟨hbody,hall⟩:=(Qap ok m).1 f xs [[]] _ H' h;have hc:=hall w.heap.size M (bare (Qt P) w M) cargs (Sim.first (Qxz _ w M hM)) rfl rfl hr;have hc' :Calls P f ⟨cargs⟩ w fun e w' =>∃c,e= .returned c/\Rel (bare (Qt P) w' M) y c/\Ext 0 w.heap.size (bare (Qt P) w M) (bare (Qt P) w' M):=by refine hc.mono ?_;rintro e w' ⟨E1,rfl,⟨c,rfl,hcv⟩,S1,X1,_⟩;obtain⟨h1,h2⟩:=S1.frz hz hcv;exact⟨c,rfl,Rel.dress (E:=bare E1.tab E1.w M) (E' :=bare (Qt P) E1.w M) rfl rfl _ _ h2 h1,Qrf X1 rfl 0⟩
 rcases ok.invokes hbody hc' with⟨v,w',h1,h2⟩|⟨j,h1,h2⟩
 . exact .inl ⟨v,w',h1,h2⟩
 . exact .inr ⟨j,h1,h2⟩
theorem Ans.take{f:FuncId}{xs:List V}{y:V}(h:Ans P f xs y){B:Nat}{F:Nat->Nat->Prop}{H:Heap}{E:Env}{cargs:List Value}(S:Sim B F H E)(hp:Qu xs=true)(hr:Qh E xs cargs):
 AM.Invokes P f ⟨cargs⟩ E.w fun e w' =>∃E',E'.w=w' /\Q3u E' (.ret y) e/\Sim B F H E' /\Ext H.length B E E' :=by
 have hr1:=Qh.bare (F:=E.mod) (fun _ _ h=>h) xs cargs hp hr;have hr2:Qh (bare (Qt P) E.w E.mod) xs cargs:=by
  refine Qh.of_get hr1.length ?_;intro i x v hx hv;obtain⟨v',hv',hxr⟩:=hr1.get hx;rw[hv] at hv';cases hv';refine Rel.dress (E:=bare E.tab E.w E.mod) (E' :=bare (Qt P) E.w E.mod) rfl rfl x v ?_ hxr;have:∀(l:List V),Qu l=true->∀(i:Nat) (x:V),l[i]?=some x->x.pure=true:=by
   intro l
   induction l with
   |nil=>intro _ i x h;simp at h
   |cons a l ih=>
    intro hl i x h;simp only[Qu,Bool.and_eq_true] at hl;cases i with
    |zero=>simp at h;subst h;exact hl.1
    |succ i=>simp at h;exact ih hl.2 i x h
  exact this xs hp i x hx
 have:=h.2 E.w E.mod cargs S.modsz hr2;refine this.mono ?_;rintro e w' ⟨c,rfl,hc,X⟩;have X' :Ext 0 E.w.heap.size (bare E.tab E.w E.mod) (bare E.tab w' E.mod):=Qrf X rfl 0;obtain⟨X2,S2⟩:=S.behind X';exact⟨{E with w:=w' },rfl,⟨c,rfl,Rel.dress (E:=bare (Qt P) w' E.mod) (E' :={E with w:=w' }) rfl rfl _ _ h.1 hc⟩,S2,X2⟩
def Qzs(K:List V->Option V):AM.Prim:=fun _ _ _ args=>match K args with
 |some v=>some (v,none)
 |none=>none
theorem Qzt{f:FuncId}{K:List V->Option V}(hK:∀xs y,K xs=some y->Qu xs=true/\Ans P f xs y)(B:Nat)(F:Nat->Nat->Prop)(H:Heap)(E:Env)(fr:Nat)(dst:Option Nat)(args:List V)(cargs:List Value)(v:V)(x:Option (Nat×Nat×O))
 (S:Sim B F H E)(_:fr<H.length)(hr:Qh E args cargs)(h:Qzs K fr dst (Qd H) args=some (v,x)):AM.Invokes P f ⟨cargs⟩ E.w (AM.Answer B F H E (.ret v) (wr H x)):=by
 unfold Qzs at h;split at h
 case h_2=>cases h
 rename_i v' hv;cases h;obtain⟨h1,h2⟩:=hK args v hv;exact(h2.take S h1 hr).mono fun e w' ⟨E',e1,e2,e3,e4⟩=>⟨E',e1,e2,e3,e4,Nat.le_refl _⟩
def ansF(x:FR):Option V:=match x with
 | .ret v F=>frz (Xz F) depth v
 |_=>none
theorem Qva(ok:Okay P pol)(hl:Qd0 pol){m:Nat}{f:FuncId}{xs:List V}{y:V}(h:ansF (Qqi P pol m (some f) xs ⟨0,.nil⟩)=some y)(hy:y.pure=true):Ans P f xs y:=by
 have:=Qhv (P:=P) hl m (some f) xs ⟨0,.nil⟩ [[]] ⟨[],rfl,fun s=>rfl,rfl⟩;revert this h;cases Qqi P pol m (some f) xs ⟨0,.nil⟩ with
 |ret v F=>
  rintro h ⟨H,e,hF⟩;simp only[ansF,hF.get] at h;exact Qu5 ok e h hy
 |_=>intro h;cases h
end
section
variable {P : Program} {polA : AM.Pol}
theorem Q6v(ok:AM.Okay P polA){f:FuncId}{xs:List V}{y:V}(h:Fz P polA f xs fun x=>x=y)(hy:y.pure=true):Ans P f xs y:=by obtain⟨v,H1,v',hc,hq,rfl⟩:=h;refine⟨hy,fun w M cargs hM hr=>?_⟩;obtain⟨hbody,hall⟩:=(Qed ok).1 f xs [] _ H1 hc;have hcall:=hall _ _ (bare (Qt P) w M) cargs (Qxz _ w M hM) rfl hr;refine ok.invokes hbody (hcall.mono ?_);rintro e w' ⟨E1,rfl,⟨c,rfl,hcv⟩,S1,X1,_⟩;obtain⟨h1,h2⟩:=S1.frz hq hcv;exact⟨c,rfl,Rel.dress (E:=bare E1.tab E1.w M) (E' :=bare (Qt P) E1.w M) rfl rfl _ _ h2 h1,Qrf X1 rfl 0⟩
def givenP(pol:AM.Pol)(K:FuncId->Option (List V->Option V)):AM.Pol:={pol with prim:=fun f=>match K f with
 |some k=>some (Qzs k)
 |none=>pol.prim f}
theorem givenP_ok(ok:AM.Okay P polA){K:FuncId->Option (List V->Option V)}(hK:∀f k,K f=some k->∀xs y,k xs=some y->Qu xs=true/\Ans P f xs y):AM.Okay P (givenP polA K) where
 mixed:=ok.mixed
 draws:=ok.draws
 loops:=ok.loops
 num:=ok.num
 prim:=fun f g hg B F H E fr dst args cargs v x S hl hr h=>by
  simp only[givenP] at hg;split at hg
  . rename_i k hk;cases hg;exact Qzt (hK f k hk) B F H E fr dst args cargs v x S hl hr h
  . exact ok.prim f g hg B F H E fr dst args cargs v x S hl hr h
theorem given_op{pol:AM.Pol}{K:FuncId->Option (List V->Option V)}{k:List V->Option V}{C:AM.Call}{fn fr:Nat}{d:Option Nat}{f:FuncId}{args:List V}{H:Heap}{y:V}(hk:K f=some k)(h:k args=some y):
 AM.callOp (givenP pol K) C fn fr d f args H=some (.ret y,H):=by
 have e:(givenP pol K).prim f=some (Qzs k):=by simp only[givenP,hk]
 simp only[AM.callOp,e,Qzs,h,Option.map_some,wr]
def fzK(P:Program)(polA:AM.Pol)(f:FuncId):List V->Option V:=fun xs=>
 open Classical in if h:Qu xs=true/\∃y:V,y.pure=true/\Fz P polA f xs fun x=>x=y then some (Classical.choose h.2) else none
theorem Zev{f:FuncId}{xs:List V}{y z:V}(h1:Fz P polA f xs fun x=>x=y)(h2:Fz P polA f xs fun x=>x=z):y=z:=by obtain⟨v,H,v',a,b,rfl⟩:=h1;obtain⟨w,H2,w',c,d,rfl⟩:=h2;rw[a] at c;cases c;rw[b] at d;cases d;rfl
theorem fzK_ok(ok:AM.Okay P polA){f:FuncId}:∀xs y,fzK P polA f xs=some y->Qu xs=true/\Ans P f xs y:=by
 intro xs y h;unfold fzK at h;split at h
 case isFalse=>cases h
 rename_i hh;cases h;have:=Classical.choose_spec hh.2;exact⟨hh.1,Q6v ok this.2 this.1⟩
theorem fzK_eq{f:FuncId}{xs:List V}{y:V}(h:Fz P polA f xs fun x=>x=y)(hx:Qu xs=true)(hy:y.pure=true):fzK P polA f xs=some y:=by have hh:Qu xs=true/\∃y:V,y.pure=true/\Fz P polA f xs fun x=>x=y:=⟨hx,y,hy,h⟩;unfold fzK;rw[dif_pos hh];exact congrArg some (Zev (Classical.choose_spec hh.2).2 h)
end
structure InsSpec(P:Program)(f:FuncId)(esz by_:Nat):Prop where
 body:∃(F:Func) (c:Code),P.funcs[f]?=some F/\F.body=some c
 num:∀(F:Func),P.funcs[f]?=some F->(F.name== "runtime.NumGoroutine")=false
 room:∀(w:World) (b len c i:Nat) (cur:Array Value) (T:TypeId) (vs rest:List Value) (b2 o2 c2:Nat) (cur2:Array Value) (T2:TypeId) (us rest2:List Value),
  w.heap[b]?=some (.cells cur T (0,0))->cur.toList=vs++rest->vs.length=len*esz->w.heap[b2]?=some (.cells cur2 T2 (0,0))->cur2.toList=us++rest2->o2+esz<=us.length->b≠b2->i<=len->len+1<=c->c*esz<=cur.size->
  (∀v∈vs,v.oneCell' =true)->(∀v∈us,v.oneCell' =true)->J4 (len+1) by_=true->
  Calls P f #[.slice (some ⟨b,0,none⟩) len c,.int .i64 i,.slice (some ⟨b2,o2,none⟩) 1 c2] w fun r w' =>r= .returned (.slice (some ⟨b,0,none⟩) (len+1) c)/\
   ∃d,w' ={w.setRow b ⟨(vs.take (i*esz)++(us.drop o2).take esz++vs.drop (i*esz))++rest.drop esz⟩ with drawn:=d}
 grow:∀(w:World) (base:Option Addr) (len c i:Nat) (vs:List Value) (b2 o2 c2:Nat) (cur2:Array Value) (T2:TypeId) (us rest2:List Value),
  (base=none->len=0/\c=0)->(∀a,base=some a->a.off=0/\a.spot=none/\Qgn w a.block 0 vs)->vs.length=len*esz->w.heap[b2]?=some (.cells cur2 T2 (0,0))->cur2.toList=us++rest2->o2+esz<=us.length->i<=len->c=len->
  (∀v∈vs,v.oneCell' =true)->(∀v∈us,v.oneCell' =true)->J4 (len+1) by_=true->
  Calls P f #[.slice base len c,.int .i64 i,.slice (some ⟨b2,o2,none⟩) 1 c2] w fun r w' =>
   ∃newCap d T rest',len+1<=newCap/\rest'.length=(newCap-(len+1))*esz/\r= .returned (.slice (some ⟨w.heap.size,0,none⟩) (len+1) newCap)/\
    w' ={w with heap:=w.heap.push (.cells ⟨(vs.take (i*esz)++(us.drop o2).take esz++vs.drop (i*esz))++rest'⟩ T),drawn:=d}
section
variable {P : Program}
end
def Q2j(n N:Nat):List V:=
 Nat.rec (motive:=fun _=>Nat->List V) (fun _=>[]) (fun _ ih N=> .int .u8 (Int.ofNat (Nat.land N (nat_lit 255)))::ih (Nat.shiftRight N (nat_lit 8))) n N
def repV(n:Nat)(v:V):List V:=Nat.rec (motive:=fun _=>List V) [] (fun _ ih=>v::ih) n
abbrev zB:V:= .int .u8 (Int.ofNat (nat_lit 0))
def z256:List V:=repV 256 zB
def zbT:V:= .iS z256 256 true
def repT(n:Nat)(v:V)(t:List V):List V:=Nat.rec (motive:=fun _=>List V) t (fun _ ih=>v::ih) n
def F0:FH:=⟨0,.nil⟩
structure Qjf(P:Program)(f:FuncId)(g:Qc4):Prop where
 sound:∀B F H E nm args cargs v ws,Sim B F H E->H.length=1->E.tab=Qt P->Qh E args cargs->g nm (Qd H) args=some (v,ws)->Invokes P f ⟨cargs⟩ E.w (Answer B F H E (.ret v) (wrL H ws))
 tame:∀nm G G' args v ws,GLe G G' ->G' 0 nm=G 0 nm->g nm G args=some (v,ws)->g nm G' args=some (v,ws)/\∀x∈ws,(∃y,G x.1 x.2.1=some y)\/(x.1=0/\x.2.1=nm)
def Qyu(K:List V->Option V):Qc4:=fun _ _ args=>match K args with
 |some v=>some (v,[])
 |none=>none
theorem Zdd{P:Program}{f:FuncId}{K:List V->Option V}(hK:∀xs y,K xs=some y->Qu xs=true/\Ans P f xs y):Qjf P f (Qyu K) where
 sound:=fun B F H E nm args cargs v ws S one ht hr h=>by
  unfold Qyu at h;split at h
  case h_2=>cases h
  rename_i v' hv;cases h;obtain⟨h1,h2⟩:=hK args v hv;have key:=h2.take S h1 hr;rw[one] at key;rcases key with⟨u,w',h3,E',e1,e2,e3,e4⟩|⟨j,h3,h4⟩
  . exact .inl ⟨u,w',h3,E',e1,e2,e3,e4,one⟩
  . exact .inr ⟨j,h3,h4.mono fun e w' ⟨E',e1,e2,e3,e4⟩=>⟨E',e1,e2,e3,e4,one⟩⟩
 tame:=fun nm G G' args v ws h hn e=>by
  refine⟨e,fun x hx=>?_⟩;unfold Qyu at e;split at e
  case h_2=>cases e
  cases e;cases hx
def Zac(R:V):List V->Option V
 |[]=>some R
 |_=>none
theorem Q7r{P:Program}{f:FuncId}{R:V}(h:Ans P f [] R):Qjf P f (Qyu (Zac R)):=
 Zdd fun xs y hxy=>by
  cases xs with
  |nil=>cases hxy;exact⟨rfl,h⟩
  |cons x l=>cases hxy
theorem Qrc{P:Program}{pol:Pol}(ok:Okay P pol)(hl:Qd0 pol){m:Nat}{f:FuncId}{xs:List V}{y:V}(h:ansF (Qqi P pol m (some f) xs ⟨0,.nil⟩)=some y)(hy:y.pure=true):Ans P f xs y:=
 Qva ok hl h hy
def n64(n:Nat):V:= .int .i64 (Int.ofNat n)
def n32(n:Nat):V:= .int .u32 (Int.ofNat n)
def n8(n:Nat):V:= .int .u8 (Int.ofNat n)
def addK(f0:FuncId)(g:Qc4)(K:FuncId->Option Qc4):FuncId->Option Qc4:=fun f=>bif Nat.beq f f0 then some g else K f
abbrev KOk(P:Program)(K:FuncId->Option Qc4):Prop:=∀f g,K f=some g->Qjf P f g
theorem Zb9{P:Program}{f0:FuncId}{g0:Qc4}{K:FuncId->Option Qc4}(h:Qjf P f0 g0)(hK:KOk P K):KOk P (addK f0 g0 K):=by
 intro f g e;simp only[addK] at e;cases hb:Nat.beq f f0
 . rw[hb] at e;exact hK f g e
 . rw[hb] at e;cases e;rw[Zqx hb];exact h
theorem noK{P:Program}:KOk P fun _=>none:=fun _ _ h=>by cases h
end Go.AM.BM
namespace Go
def jf1(P:Program)(f:FuncId)(fn:Func)(s:ChangeSpec)(c:OpenClaim):Bool:=c.wf (OpenSpec.ofChange s)
def jf2(P:Program)(f:FuncId)(fn:Func)(s:ChangeSpec)(c:OpenClaim):Bool:=laidOutB P
def jf3(P:Program)(f:FuncId)(fn:Func)(s:ChangeSpec)(c:OpenClaim):Bool:=mapsRowed P
def jf4(P:Program)(f:FuncId)(fn:Func)(s:ChangeSpec)(c:OpenClaim):Bool:=fn.params.all (P.readableRec ·)
def jf5(P:Program)(f:FuncId)(fn:Func)(s:ChangeSpec)(c:OpenClaim):Bool:=namedTie P c.named s.vars
def jf6(P:Program)(f:FuncId)(fn:Func)(s:ChangeSpec)(c:OpenClaim):Bool:=(c.stops==[])
def jf7(P:Program)(f:FuncId)(fn:Func)(s:ChangeSpec)(c:OpenClaim):Bool:=(P.stops==[])
def jf8(P:Program)(f:FuncId)(fn:Func)(s:ChangeSpec)(c:OpenClaim):Bool:=(c.knobs==[])
def jf9(P:Program)(f:FuncId)(fn:Func)(s:ChangeSpec)(c:OpenClaim):Bool:=(P.stopKnobs==[])
def jf10(P:Program)(f:FuncId)(fn:Func)(s:ChangeSpec)(c:OpenClaim):Bool:=(c.inPlace==P.inPlace f)
def jf11(P:Program)(f:FuncId)(fn:Func)(s:ChangeSpec)(c:OpenClaim):Bool:=(c.unfollowed==P.unfollowed f)
def jf12(P:Program)(f:FuncId)(fn:Func)(s:ChangeSpec)(c:OpenClaim):Bool:=(c.recurses==P.recurses f)
def jf13(P:Program)(f:FuncId)(fn:Func)(s:ChangeSpec)(c:OpenClaim):Bool:=(c.named==P.varsNamed f)
def jf14(P:Program)(f:FuncId)(fn:Func)(s:ChangeSpec)(c:OpenClaim):Bool:=(c.maps==(fn.params.toList++s.plain.varTypes P).any (P.mapsRec ·))
def jf15(P:Program)(f:FuncId)(fn:Func)(s:ChangeSpec)(c:OpenClaim):Bool:=(c.ifaces==(fn.params.toList++s.plain.varTypes P).any (P.ifacesRec ·))
def jf16(P:Program)(f:FuncId)(fn:Func)(s:ChangeSpec)(c:OpenClaim):Bool:=(c.mapsOut==P.mapsAmong fn.resultTypes.toList)
def jf17(P:Program)(f:FuncId)(fn:Func)(s:ChangeSpec)(c:OpenClaim):Bool:=(c.loops==(fn.params.toList++s.plain.varTypes P).any (P.loopsFrom ·))
def jf18(P:Program)(f:FuncId)(fn:Func)(s:ChangeSpec)(c:OpenClaim):Bool:=(c.wideKeys==(fn.params.toList++s.plain.varTypes P++fn.resultTypes.toList).any (P.wideKeysFrom ·))
def jf19(P:Program)(f:FuncId)(fn:Func)(s:ChangeSpec)(c:OpenClaim):Bool:=s.vars.all (P.varReadable ·)
def jf20(P:Program)(f:FuncId)(fn:Func)(s:ChangeSpec)(c:OpenClaim):Bool:=fn.resultTypes.all (fun t=>P.readableRec t&&decide (t<P.types.size))
def jf21(P:Program)(f:FuncId)(fn:Func)(s:ChangeSpec)(c:OpenClaim):Bool:=(c.ifacesOut==fn.resultTypes.toList.any (P.ifacesRec ·))
def jf22(P:Program)(f:FuncId)(fn:Func)(s:ChangeSpec)(c:OpenClaim):Bool:=(c.loopsOut==fn.resultTypes.toList.any (P.loopsFrom ·))
def jf23(P:Program)(f:FuncId)(fn:Func)(s:ChangeSpec)(c:OpenClaim):Bool:=(c.plainKeys==P.plainKeys)
def jf24(P:Program)(f:FuncId)(fn:Func)(s:ChangeSpec)(c:OpenClaim):Bool:=c.shortTexts.isNone
def jf25(P:Program)(f:FuncId)(fn:Func)(s:ChangeSpec)(c:OpenClaim):Bool:=P.stopsHeard
def jf26(P:Program)(f:FuncId)(fn:Func)(s:ChangeSpec)(c:OpenClaim):Bool:=P.mayEnter
def jf27(P:Program)(f:FuncId)(fn:Func)(s:ChangeSpec)(c:OpenClaim):Bool:=(c.lifted==P.liftsFinal)
def jf28(P:Program)(f:FuncId)(fn:Func)(s:ChangeSpec)(c:OpenClaim):Bool:=(P.make==some c.make)
def jf29(P:Program)(f:FuncId)(fn:Func)(s:ChangeSpec)(c:OpenClaim):Bool:=(c.kinds==(if c.domain.isEmpty then[] else fn.params.toList.map fun t=>match P.underlying t with|some (.int k)=>some k|_=>none))
def jf30(P:Program)(f:FuncId)(fn:Func)(s:ChangeSpec)(c:OpenClaim):Bool:=(c.pinned==c.pinnedBy)
def jf31(P:Program)(f:FuncId)(fn:Func)(s:ChangeSpec)(c:OpenClaim):Bool:=(c.veiled==(fn.params.toList++s.plain.varTypes P++fn.resultTypes.toList).any (P.veiledRec ·))
def jf32(P:Program)(f:FuncId)(fn:Func)(s:ChangeSpec)(c:OpenClaim):Bool:=c.veiledFits P fn.params.toList (fn.params.toList++s.plain.varTypes P++fn.resultTypes.toList)
set_option linter.unusedVariables false in
theorem Q6p{P:Program}{f:FuncId}{fn:Func}{s:ChangeSpec}{c:OpenClaim}(h1:jf1 P f fn s c=true)(h2:jf2 P f fn s c=true)(h3:jf3 P f fn s c=true)(h4:jf4 P f fn s c=true)(h5:jf5 P f fn s c=true)(h6:jf6 P f fn s c=true)(h7:jf7 P f fn s c=true)(h8:jf8 P f fn s c=true)(h9:jf9 P f fn s c=true)(h10:jf10 P f fn s c=true)(h11:jf11 P f fn s c=true)(h12:jf12 P f fn s c=true)(h13:jf13 P f fn s c=true)(h14:jf14 P f fn s c=true)(h15:jf15 P f fn s c=true)(h16:jf16 P f fn s c=true)(h17:jf17 P f fn s c=true)(h18:jf18 P f fn s c=true)(h19:jf19 P f fn s c=true)(h20:jf20 P f fn s c=true)(h21:jf21 P f fn s c=true)(h22:jf22 P f fn s c=true)(h23:jf23 P f fn s c=true)(h24:jf24 P f fn s c=true)(h25:jf25 P f fn s c=true)(h26:jf26 P f fn s c=true)(h27:jf27 P f fn s c=true)(h28:jf28 P f fn s c=true)(h29:jf29 P f fn s c=true)(h30:jf30 P f fn s c=true)(h31:jf31 P f fn s c=true)(h32:jf32 P f fn s c=true):joinedFacts P f fn s c=true:=by unfold joinedFacts;simp only[Bool.and_eq_true];refine⟨⟨⟨⟨⟨⟨⟨⟨⟨⟨⟨⟨⟨⟨⟨⟨⟨⟨⟨⟨⟨⟨⟨⟨⟨⟨⟨⟨⟨⟨⟨h1,h2⟩,h3⟩,h4⟩,h5⟩,h6⟩,h7⟩,h8⟩,h9⟩,h10⟩,h11⟩,h12⟩,h13⟩,h14⟩,h15⟩,h16⟩,h17⟩,h18⟩,h19⟩,h20⟩,h21⟩,h22⟩,h23⟩,h24⟩,h25⟩,h26⟩,h27⟩,h28⟩,h29⟩,h30⟩,h31⟩,h32⟩
end Go
end
end
