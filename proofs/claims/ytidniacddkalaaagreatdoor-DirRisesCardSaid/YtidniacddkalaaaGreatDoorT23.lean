/- This file holds in one the texts Bx26, Bx27, Bx28; each says at its head what it proves. -/
import Derived.Test.YtidniacddkalaaaGreatDoorT14
import Derived.Test.YtidniacddkalaaaGreatDoorT16
import Derived.Test.YtidniacddkalaaaGreatDoorT20
import Derived.Test.YtidniacddkalaaaGreatDoorT22
set_option linter.unusedSimpArgs false
set_option linter.unusedVariables false
section
namespace Go.AM.BM
section
variable {P : Program} {pol : Pol}
end
def Qex(K:List V->Option V):Prim:=fun _ _ g args=>match Qt (frz g depth) args with
 |some ys=>(match K ys with
  |some v=>some (v,none)
  |none=>none)
 |none=>none
section
variable {P : Program}
def FzN(P:Program)(pol:AM.Pol)(f:FuncId)(args:List V)(v:V):Prop:=∃v0 H',Qp P pol f args []=some (.ret v0,H')/\frzN (Qd H') depth v0=some v
theorem Qyo{polA:AM.Pol}(ok:AM.Okay P polA){f:FuncId}{ys:List V}{v:V}(h:FzN P polA f ys v){B:Nat}{F:Nat->Nat->Prop}{H:Heap}{E:Env}{args:List V}{cargs:List Value}(S:Sim B F H E)(one:H.length=1)(htab:E.tab=Qo P)
 (hr:Qe E args cargs)(hys:Qt (frz (Qd H) depth) args=some ys):Invokes P f ⟨cargs⟩ E.w (Answer B F H E (.ret v) H):=by
 obtain⟨hr',_⟩:=Z1 (E' :=bare E.tab E.w F) (fun x y v hf hx=>S.frz hf hx) _ _ _ hys hr;obtain⟨v0,H1,hc,hq⟩:=h;obtain⟨hbody,hall⟩:=(Qd9 ok).1 f ys [] _ H1 hc;have hcall:=hall _ _ (bare E.tab E.w F) cargs S.bareF htab hr';refine ok.invokes hbody (hcall.mono ?_);rintro e w' ⟨E1,rfl,⟨c,rfl,hcv⟩,S1,X1,_⟩;obtain⟨X,S'⟩:=S.behindM S.fmod X1;obtain⟨h1,h2⟩:=S1.frzN (M:=E.mod) S.modsz hq hcv;exact⟨{E with w:=E1.w},rfl,⟨c,rfl,Rel.dress (E:=bare E1.tab E1.w E.mod) (E' :={E with w:=E1.w}) rfl rfl _ _ h2 h1⟩,S',X.less (by omega) (Zrf _),one⟩
theorem Qd3{polA:AM.Pol}(ok:AM.Okay P polA){f:FuncId}{K:List V->Option V}(hK:∀ys v,K ys=some v->FzN P polA f ys v)(B:Nat)(F:Nat->Nat->Prop)(H:Heap)(E:Env)(fr:Nat)(dst:Option Nat)(args:List V)(cargs:List Value)(v:V)(x:Option (Nat×Nat×O))
 (S:Sim B F H E)(one:H.length=1)(_:fr=0)(htab:E.tab=Qo P)(hr:Qe E args cargs)(h:Qex K fr dst (Qd H) args=some (v,x)):Invokes P f ⟨cargs⟩ E.w (Answer B F H E (.ret v) (wr H x)):=by
 unfold Qex at h;split at h
 case h_2=>cases h
 rename_i ys hys;split at h
 case h_2=>cases h
 rename_i v' hv;cases h;exact Qyo ok (hK ys v hv) S one htab hr hys
theorem frz_le{G G' :Get}(h:GLe G G'):∀(n:Nat) (x y:V),frz G n x=some y->frz G' n x=some y:=by
 intro n
 induction n with
 |zero=>intro x y e;cases e
 |succ n ih=>
  have ihL:∀(l m:List V),Qt (frz G n) l=some m->Qt (frz G' n) l=some m:=by
   intro l
   induction l with
   |nil=>intro m e;exact e
   |cons x l ihl=>
    intro m e;simp only[Qt] at e⊢;cases hx:frz G n x with
    |none=>rw[hx] at e;cases e
    |some y=>
     rw[hx] at e;cases hl:Qt (frz G n) l with
     |none=>rw[hl] at e;cases e
     |some ys=>rw[hl] at e;cases e;rw[ih x y hx,ihl ys hl]
  have ihm:∀(l:List V) (f:List V->V) (y:V),(Qt (frz G n) l).map f=some y->(Qt (frz G' n) l).map f=some y:=by
   intro l f y e;cases hl:Qt (frz G n) l with
   |none=>rw[hl] at e;cases e
   |some ys=>rw[hl] at e;rw[ihL l ys hl];exact e
  intro x y e;cases x with
  |mS f s o len cap esz=>
   simp only[frz] at e⊢;cases hg:G f s with
   |none=>rw[hg] at e;cases e
   |some q=>
    rw[hg] at e;rw[h f s q hg];cases q with
    |cells xs=>
     simp only at e⊢;split at e
     . rename_i hc;rw[if_pos hc];exact ihm _ _ _ e
     . cases e
    |_=>cases e
  |ptr f s o=>
   simp only[frz] at e⊢;cases hg:G f s with
   |none=>rw[hg] at e;cases e
   |some q=>
    rw[hg] at e;rw[h f s q hg];cases q with
    |cells xs=>exact ihm _ _ _ e
    |_=>cases e
  |gS f s cs len q=>exact ihm _ _ _ e
  |rptr cs o=>exact ihm _ _ _ e
  |agg cs=>exact ihm _ _ _ e
  |tuple cs=>exact ihm _ _ _ e
  |face t v=>
   simp only[frz] at e⊢;cases hv:frz G n v with
   |none=>rw[hv] at e;cases e
   |some w=>rw[hv] at e;rw[ih v w hv];exact e
  |func fn a b=>
   simp only[frz] at e⊢;cases ha:Qt (frz G n) a with
   |none=>rw[ha] at e;cases e
   |some a' =>
    rw[ha] at e;cases hb:Qt (frz G n) b with
    |none=>rw[hb] at e;cases e
    |some b' =>rw[hb] at e;rw[ihL a a' ha,ihL b b' hb];exact e
  |_=>exact e
theorem Q3m{G G' :Get}(h:GLe G G')(n:Nat):∀(l m:List V),Qt (frz G n) l=some m->Qt (frz G' n) l=some m
 |[],_,e=>e
 |x::l,m,e=>by
  simp only[Qt] at e⊢;cases hx:frz G n x with
  |none=>rw[hx] at e;cases e
  |some y=>
   rw[hx] at e;cases hl:Qt (frz G n) l with
   |none=>rw[hl] at e;cases e
   |some ys=>rw[hl] at e;cases e;rw[frz_le h n x y hx,Q3m h n l ys hl]
theorem Qgb(K:List V->Option V)(nm:Nat)(G G' :Get)(args:List V)(v:V)(w:Option (Nat×Nat×O))(h:GLe G G')(e:Qex K 0 (some nm) G args=some (v,w)):
 Qex K 0 (some nm) G' args=some (v,w)/\∀x∈w.toList,(∃y,G x.1 x.2.1=some y)\/(x.1=0/\x.2.1=nm):=by
 unfold Qex at e⊢;split at e
 case h_2=>cases e
 rename_i ys hys;rw[Q3m h depth args ys hys];split at e
 case h_2=>cases e
 rename_i v' hv;cases e;exact⟨by simp only[hv],fun x hx=>by cases hx⟩
end
def conA(g:Get)(args:List V):Option (List V×Option (Nat×Nat×O)):=match args with
 | .agg [x,y]::r=>(Qiw g y).map fun z=>(.agg [x,z.1]::r,z.2)
 |l=>some (l,none)
def Qoi(K:List V->Option V):Prim:=fun _ _ g args=>match conA g args with
 |some (ys,w)=>(match Qt (frz (fun _ _=>none) depth) ys with
  |some zs=>(match K zs with
   |some v=>some (v,w)
   |none=>none)
  |none=>none)
 |none=>none
section
variable {P : Program} {E : Env} {B : Nat} {F : Nat -> Nat -> Prop} {H : Heap}
theorem Q25(S:Sim B F H E){args ys:List V}{w:Option (Nat×Nat×O)}{cs:List Value}(h:conA (Qd H) args=some (ys,w))(hr:Qe E args cs):
 ∃E',E'.w=E.w/\Ext H.length B E E' /\Sim B F (wr H w) E' /\Qe E' ys cs:=by
 unfold conA at h;split at h
 . rename_i x y r;cases hx:Qiw (Qd H) y with
   |none=>rw[hx] at h;cases h
   |some z=>
    rw[hx] at h;cases h;obtain⟨u,us,rfl,h1,h2⟩:=Qe.cons_iff.1 hr;simp only[Rel] at h1;obtain⟨vs,rfl,hl⟩:=h1;obtain⟨u1,us1,rfl,h3,h4⟩:=Qe.cons_iff.1 hl;obtain⟨u2,us2,rfl,h5,h6⟩:=Qe.cons_iff.1 h4;obtain⟨E',e,X,S',h7⟩:=Qfw S (v' :=z.1) (w:=z.2) hx h5;refine⟨E',e,X,S',.cons ?_ (Qe.mono X S.lt _ _ h2)⟩;simp only[Rel];exact⟨_,rfl,.cons (Rel.mono X S.lt _ _ h3) (.cons h7 (Qe.mono X S.lt _ _ h6))⟩
 . cases h;exact⟨E,rfl,Ext.refl _ _ _,S,hr⟩
theorem Qjm{polA:AM.Pol}(ok:AM.Okay P polA){f:FuncId}{K:List V->Option V}(hK:∀ys v,K ys=some v->Fz P polA f ys (· =v))(B:Nat)(F:Nat->Nat->Prop)(H:Heap)(E:Env)(fr:Nat)(dst:Option Nat)(args:List V)(cargs:List Value)(v:V)(x:Option (Nat×Nat×O))
 (S:Sim B F H E)(one:H.length=1)(_:fr=0)(htab:E.tab=Qo P)(hr:Qe E args cargs)(h:Qoi K fr dst (Qd H) args=some (v,x)):Invokes P f ⟨cargs⟩ E.w (Answer B F H E (.ret v) (wr H x)):=by
 unfold Qoi at h;split at h
 case h_2=>cases h
 rename_i ys w hys;split at h
 case h_2=>cases h
 rename_i zs hzs;split at h
 case h_2=>cases h
 rename_i v' hv;cases h;obtain⟨E',e,X,S',hr'⟩:=Q25 S hys hr;have htab' :E'.tab=Qo P:=X.tab.trans htab;obtain⟨hr2,_⟩:=Qec depth hzs hr';obtain⟨v0,H1,v1,hc,hq,rfl⟩:=hK zs _ hv;obtain⟨hbody,hall⟩:=(Qd9 ok).1 f zs [] _ H1 hc;have hcall:=hall _ _ (bare E'.tab E'.w E'.mod) cargs S'.bare htab' hr2;rw[<-e];refine ok.invokes hbody (hcall.mono ?_);rintro en w' ⟨E1,rfl,⟨c,rfl,hcv⟩,S1,X1,_⟩;obtain⟨X2,S2⟩:=S'.behind (E1:=E1) X1;obtain⟨h1,h2⟩:=S1.frz hq hcv;rw[wr_length] at X2;exact⟨{E' with w:=E1.w},rfl,⟨c,rfl,Rel.dress (E:=bare E1.tab E1.w E'.mod) (E' :={E' with w:=E1.w}) rfl rfl _ _ h2 h1⟩,S2,(X.less (by omega) (Zrf _)).trans (X2.less (by omega) (Zrf _)),by rw[wr_length];exact one⟩
theorem Zc6{G G' :Get}(h:GLe G G'){v v' :V}{w:Option (Nat×Nat×O)}(e:Qiw G v=some (v',w)):Qiw G' v=some (v',w)/\∀x∈w.toList,∃y,G x.1 x.2.1=some y:=by
 unfold Qiw at e⊢;split at e
 . rename_i f s o len cap esz;split at e
   case h_2=>cases e
   rename_i xs hg;split at e
   case isFalse=>cases e
   rename_i hc;cases e;simp only[h f s _ hg];rw[if_pos hc];refine⟨rfl,fun x hx=>?_⟩;simp only[Option.toList,Zr0] at hx;subst hx;exact⟨_,hg⟩
 . cases e;exact⟨rfl,fun x hx=>by cases hx⟩
theorem Qlv(K:List V->Option V)(nm:Nat)(G G' :Get)(args:List V)(v:V)(w:Option (Nat×Nat×O))(h:GLe G G')(e:Qoi K 0 (some nm) G args=some (v,w)):
 Qoi K 0 (some nm) G' args=some (v,w)/\∀x∈w.toList,(∃y,G x.1 x.2.1=some y)\/(x.1=0/\x.2.1=nm):=by
 have main:∀ys w,conA G args=some (ys,w)->conA G' args=some (ys,w)/\∀x∈w.toList,∃y,G x.1 x.2.1=some y:=by
  intro ys w hc;unfold conA at hc⊢;split at hc
  . rename_i x y r;cases hx:Qiw G y with
    |none=>rw[hx] at hc;cases hc
    |some z=>
     rw[hx] at hc;cases hc;obtain⟨g1,g2⟩:=Zc6 h (v' :=z.1) (w:=z.2) hx;exact⟨by simp only[g1,Zrb],g2⟩
  . cases hc;exact⟨rfl,fun x hx=>by cases hx⟩
 unfold Qoi at e⊢;split at e
 case h_2=>cases e
 rename_i ys w' hys;obtain⟨g1,g2⟩:=main ys w' hys;rw[g1];split at e
 case h_2=>cases e
 rename_i zs hzs;split at e
 case h_2=>cases e
 rename_i v' hv;cases e;simp only[hzs,hv,true_and];exact fun x hx=> .inl (g2 x hx)
end
end Go.AM.BM
end
