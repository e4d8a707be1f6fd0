/- It is proved that the law ModelPlays answers true at all arguments (modelPlays_holds is the given statement ModelPlaysSaid, without any condition); this file holds the text R32, the frame of the proof. -/
import Derived.Test.YtmapmgfiamfocaaGreatT29
import Derived.Test.YtmapmgfiamfocaaGreatRows
import Derived.ProofKit
import Derived.OpenShut
set_option linter.unusedSimpArgs false
set_option linter.unusedVariables false
namespace Go.Proofs.YtmapmgfiamfocaaGreat
section
set_option maxRecDepth 100000
open Go.AM Go.Mod Go.ChangeShapes Go.WideShapes Go.ChangeAt Go.RowKit
theorem Bk{n:Nat}{t:TypeId}{k:IntKind}{xs:List V}(hu:(Tryz.prog).underlying t=some (.int k))(h:Xc Tryz.prog n t xs):∃m,xs=[.int k m]:=by
 cases n with
 |zero=>exact h.elim
 |succ n=>
  unfold Xc at h;rw[hu] at h;obtain⟨m,h1,_⟩:=h;exact⟨m,h1⟩
theorem Qfd{n:Nat}{t:TypeId}{xs:List V}(hu:(Tryz.prog).underlying t=some .string)(h:Xc Tryz.prog n t xs):∃s,xs=[.str s]:=by
 cases n with
 |zero=>exact h.elim
 |succ n=>
  unfold Xc at h;rw[hu] at h;obtain⟨m,h1,_⟩:=h;exact⟨m,h1⟩
theorem Qmv{n:Nat}{t e:TypeId}{xs:List V}(hu:(Tryz.prog).underlying t=some (.slice e))(he:(Tryz.prog).underlying e=some (.int .u8))(h:Xc Tryz.prog n t xs):∃v l,xs=[v]/\Qx v l:=by
 cases n with
 |zero=>exact h.elim
 |succ n=>
  unfold Xc at h;rw[hu] at h;rcases h with h|⟨ys,h,_,h2⟩
  . exact⟨_,[],h,Qx.nil⟩
  . obtain⟨l,h3,h4⟩:=Qiq he ys h2;exact⟨_,l,h,by rw[h3,<-h4];exact Qx.mk l false⟩
theorem Qw3{n:Nat}{xs:List V}(h:Xc Tryz.prog n 41 xs):∃c dv,xs=Qf c dv/\Qx dv c.data:=by
 cases n with
 |zero=>exact h.elim
 |succ n=>
  unfold Xc at h;rw[Tryz.underlying41] at h;simp only[Qc6,Zfn,Zfo] at h;obtain⟨x1,r1,a1,⟨x2,r2,a2,⟨x3,r3,a3,⟨x4,r4,a4,⟨x5,r5,a5,⟨x6,r6,a6,⟨x7,r7,a7,⟨x8,r8,a8,e9,rfl⟩,rfl⟩,rfl⟩,rfl⟩,rfl⟩,rfl⟩,rfl⟩,rfl⟩:=h;obtain⟨m1,rfl⟩:=Bk Tryz.underlying5 a1;obtain⟨m2,rfl⟩:=Bk Tryz.underlying3 a2;obtain⟨m3,rfl⟩:=Bk Tryz.underlying3 a3;obtain⟨m4,rfl⟩:=Bk Tryz.underlying3 a4;obtain⟨s5,rfl⟩:=Qfd Tryz.underlying9 a5;obtain⟨s6,rfl⟩:=Qfd Tryz.underlying9 a6;obtain⟨s7,rfl⟩:=Qfd Tryz.underlying9 a7;obtain⟨v8,l8,rfl,h8⟩:=Qmv Tryz.underlying24 Tryz.underlying5 a8;subst e9;exact⟨⟨m1,m2,m3,m4,s5,s6,s7,l8⟩,v8,rfl,h8⟩
theorem Qo1{n:Nat}:∀ys:List (List V),(∀y∈ys,Xc Tryz.prog n 41 y)->∃l:List Zc,l.length=ys.length/\Qdj ys.flatten l
 |[],_=>⟨[],rfl,rfl⟩
 |y::ys,h=>by
  obtain⟨l,h1,h2⟩:=Qo1 ys fun z hz=>h z (Zfj _ hz);obtain⟨c,dv,rfl,h3⟩:=Qw3 (h y (by simp));exact⟨c::l,by simp[h1],dv,_,rfl,h3,h2⟩
theorem Q1p{n:Nat}{y:V}(h:Qf9 Tryz.prog n 22 y):∃l cs,Ql 8 y cs l.length/\Qdj cs l:=by
 unfold Qf9 at h;rw[Tryz.underlying22] at h;cases n with
 |zero=>exact h.elim
 |succ n=>
  simp only[Xc,Tryz.underlying22] at h;rcases h with h|⟨ys,h,_,h2⟩
  . cases h;exact⟨[],[],Ql.nil,rfl⟩
  . cases h;obtain⟨l,h3,h4⟩:=Qo1 ys h2;refine⟨l,ys.flatten,?_,h4⟩;rw[<-h3];exact Ql.mk h4.len
theorem Qyx{n:Nat}{xs:List V}(h:Xc Tryz.prog n 25 xs):∃(v:V) (l:List Qq),xs=[v]/\Ql 1 v (l.map V.str) l.length:=by
 cases n with
 |zero=>exact h.elim
 |succ n=>
  unfold Xc at h;rw[Tryz.underlying25] at h;rcases h with h|⟨ys,h,_,h2⟩
  . exact⟨_,[],h,Ql.nil⟩
  . have key:∀ys:List (List V),(∀y∈ys,Xc Tryz.prog n 9 y)->∃l:List Qq,l.length=ys.length/\ys.flatten=l.map V.str:=by
     intro ys
     induction ys with
     |nil=>exact fun _=>⟨[],rfl,rfl⟩
     |cons y ys ih=>
      intro hy;obtain⟨l,e1,e2⟩:=ih fun z hz=>hy z (Zfj _ hz);obtain⟨s,rfl⟩:=Qfd Tryz.underlying9 (hy y (by simp));exact⟨s::l,by simp[e1],by simp[e2]⟩
    obtain⟨l,h3,h4⟩:=key ys h2;refine⟨_,l,h,?_⟩;rw[h4,<-h3];exact Ql.mk (by simp)
theorem Qwz{n:Nat}{xs:List V}(h:Xc Tryz.prog n 28 xs):∃(v:V) (l:List Int),xs=[v]/\Y0 v l:=by
 cases n with
 |zero=>exact h.elim
 |succ n=>
  unfold Xc at h;rw[Tryz.underlying28] at h;rcases h with h|⟨ys,h,_,h2⟩
  . exact⟨_,[],h,Y0.nil⟩
  . have key:∀ys:List (List V),(∀y∈ys,Xc Tryz.prog n 3 y)->∃l:List Int,l.length=ys.length/\ys.flatten=Jm l:=by
     intro ys
     induction ys with
     |nil=>exact fun _=>⟨[],rfl,rfl⟩
     |cons y ys ih=>
      intro hy;obtain⟨l,e1,e2⟩:=ih fun z hz=>hy z (Zfj _ hz);obtain⟨s,rfl⟩:=Bk Tryz.underlying3 (hy y (by simp));exact⟨s::l,by simp[e1],by simp[e2,Jm]⟩
    obtain⟨l,h3,h4⟩:=key ys h2;refine⟨_,l,h,?_⟩;rw[h4,<-h3];exact Ql.mk (by simp[Jm])
theorem Qxt{n:Nat}{xs:List V}(h:Xc Tryz.prog n 27 xs):∃i:Qkx,xs=Qny i:=by
 cases n with
 |zero=>exact h.elim
 |succ n=>
  unfold Xc at h;rw[Tryz.underlying27] at h;simp only[Qc6,Zfn,Zfo] at h;obtain⟨x1,r1,a1,⟨x2,r2,a2,⟨x3,r3,a3,⟨x4,r4,a4,⟨x5,r5,a5,e6,rfl⟩,rfl⟩,rfl⟩,rfl⟩,rfl⟩:=h;obtain⟨m1,rfl⟩:=Bk Tryz.underlying3 a1;obtain⟨m2,rfl⟩:=Bk Tryz.underlying5 a2;obtain⟨m3,rfl⟩:=Bk Tryz.underlying3 a3;obtain⟨m4,rfl⟩:=Bk Tryz.underlying3 a4;obtain⟨s5,rfl⟩:=Qfd Tryz.underlying9 a5;subst e6;exact⟨⟨m1,m2,m3,m4,s5⟩,rfl⟩
theorem Qu9{n:Nat}{xs:List V}(h:Xc Tryz.prog n 30 xs):∃o:Zi,Y4 (.agg xs) o:=by
 cases n with
 |zero=>exact h.elim
 |succ n=>
  unfold Xc at h;rw[Tryz.underlying30] at h;simp only[Qc6,Zfn,Zfo] at h;obtain⟨x1,r1,a1,⟨x2,r2,a2,⟨x3,r3,a3,⟨x4,r4,a4,⟨x5,r5,a5,⟨x6,r6,a6,e7,rfl⟩,rfl⟩,rfl⟩,rfl⟩,rfl⟩,rfl⟩:=h;obtain⟨m1,rfl⟩:=Bk Tryz.underlying23 a1;obtain⟨m2,rfl⟩:=Bk Tryz.underlying3 a2;obtain⟨v3,l3,rfl,h3⟩:=Qmv Tryz.underlying24 Tryz.underlying5 a3;obtain⟨v4,l4,rfl,h4⟩:=Qyx a4;obtain⟨i,rfl⟩:=Qxt a5;obtain⟨v6,l6,rfl,h6⟩:=Qwz a6;subst e7;exact⟨⟨m1,m2,l3,l4,i,l6⟩,v3,v4,v6,rfl,h3,h4,h6⟩
theorem Qz3{n:Nat}{y:V}(h:Qf9 Tryz.prog n 30 y):∃oc o,y= .agg oc/\Y4 (.agg oc) o:=by unfold Qf9 at h;rw[Tryz.underlying30] at h;obtain⟨xs,rfl,h⟩:=h;obtain⟨o,ho⟩:=Qu9 h;exact⟨xs,o,rfl,ho⟩
theorem Q71{f:FuncId}{xs:List V}(h:Fz Tryz.prog Qv f xs fun r=>r= .bool true):∃H',Zx Tryz.prog Qv f xs []=some (.ret (.bool true),H'):=by obtain⟨v,H',v',h1,h2,rfl⟩:=h;exact⟨H',by rw[h1,frz_b (n:=11) h2]⟩
theorem Qxu:∀xs,Qkm Tryz.prog [22,30] xs->∃H',Zx Tryz.prog Qv (some 3) xs []=some (.ret (.bool true),H'):=by intro xs h;obtain⟨n1,y1,r1,a1,⟨n2,y2,r2,a2,rfl,rfl⟩,rfl⟩:=h;obtain⟨l,cs,h1,h2⟩:=Q1p a1;obtain⟨oc,o,rfl,ho⟩:=Qz3 a2;exact Q71 (Q1q y1 cs l h1 h2 oc o ho)
theorem Qo4:ownKnob Tryz.prog.godebug=none:=by kernel_rfl
theorem Qkl(os:Os)(started:os.Started)(H:Type)(enc:TypeId×Value->H):
 ReturnsInHanded {} Tryz.checked os 3 .any (Rows.modelPlaysSpec.pre6 enc Tryz.prog Tryz.f3 Rows.modelPlaysRow.domain false) (Rows.modelPlaysSpec.post enc Tryz.prog Tryz.f3 false true false false):=by
 refine returnsInHanded_of_change (C:=Tryz.checked) Qo4 started (by kernel_rfl) Tryz.func3
  (ChangeSpec.witness6 (enc:=enc) (C:=Tryz.checked) false ⟨#[],#[.slice none 0 0,.agg #[.int .i64 0,.int .i64 0,.slice none 0 0,.slice none 0 0,.int .i64 0,.int .u8 0,.int .i64 0,.int .i64 0,.string ByteArray.empty,.slice none 0 0]],[]⟩ 8 (by kernel_rfl) (by kernel_rfl) (by kernel_rfl) (by kernel_rfl)) ?_
 intro W base args ds gs before hval hW _ _;exact Qtm (ts:=[22,30]) (tb:=4) (book:=[22,41,5,3,9,24,30,23,25,27,28]) okR (by kernel_rfl) (congrArg Array.toList Tryz.params3) (by kernel_rfl) Tryz.underlying4 (by kernel_rfl) (by kernel_rfl) (s:=Rows.modelPlaysSpec) rfl
  (fun ds hd=>by
    match ds,hd with
    |[_,_],_=>exact⟨rfl,rfl,rfl⟩)
  Qxu hval hW
theorem modelPlays_holds:Rows.ModelPlaysSaid:=
 OpenClaim.holds_of_wide 3 Tryz.f3 rfl rfl rfl rfl rfl rfl rfl ⟨rfl,rfl,rfl,rfl,rfl⟩ rfl rfl rfl rfl rfl (by kernel_rfl) Tryz.func3 (by kernel_rfl)
  (of_decide_eq_true (by kernel_rfl)) (by unfold Func.isWrapper;first|(rw[if_pos (by decide+kernel)];kernel_rfl)|(rw[if_neg (by decide+kernel)];exact⟨rfl,rfl⟩))
  (fun os started H enc _=>Qkl os started H enc)
#print axioms modelPlays_holds
end
end Go.Proofs.YtmapmgfiamfocaaGreat
