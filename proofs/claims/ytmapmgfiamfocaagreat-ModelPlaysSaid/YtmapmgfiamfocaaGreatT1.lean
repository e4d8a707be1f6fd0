/- This file holds in one the texts An1, An2; each says at its head what it proves. -/
import Derived.Laws.Sem
import Derived.Calls
import Derived.Laws.CopyRow
set_option linter.unusedSimpArgs false
set_option linter.unusedVariables false
section
namespace Go.AM
abbrev Ze2:= @List.getElem?_modify
abbrev Ze3:= @List.getElem?_eq_getElem
abbrev Ze4:= @Option.map_some
abbrev Ze5:= @Nat.lt_or_ge
abbrev Ze6:= @List.getElem?_eq_none
abbrev Ze7:= @Bool.false_eq_true
abbrev Ze8:= @Nat.le_refl
abbrev Ze9:= @Nat.le_trans
abbrev Zfa:= @Nat.lt_of_lt_of_le
abbrev Zfb:= @Array.getElem?_eq_some_iff
abbrev Zfc:= @Nat.ne_of_lt
abbrev Zfd:= @Array.size_push
abbrev Zfe:= @Nat.lt_succ_of_lt
abbrev Zff:= @Nat.zero_add
abbrev Zfg:= @Nat.lt_irrefl
abbrev Zfh:= @List.getElem?_take
abbrev Zfi:= @List.mem_cons
abbrev Zfj:= @List.mem_cons_of_mem
abbrev Zfk:= @Nat.le_max_left
abbrev Zfl:= @Nat.le_max_right
abbrev Zfm:= @List.mem_map
abbrev Zfn:= @List.map_cons
abbrev Zfo:= @List.map_nil
abbrev Zfp:= @List.map_map
abbrev Zfq:= @Nat.add_assoc
abbrev Zfr:= @Bool.and_eq_true
abbrev Zfs:= @List.drop_drop
abbrev Zft:= @List.take_append_drop
abbrev Zfu:= @List.drop_of_length_le
abbrev Zfv:= @List.length_append
abbrev Zfw:= @List.mem_append
abbrev Zfx:= @List.mem_singleton
abbrev Zfy:= @List.getElem?_append_left
abbrev Zfz:= @List.getElem?_append_right
abbrev Zf0:= @List.getElem?_eq_some_iff
abbrev Zf1:= @List.all_eq_true
abbrev Zf2:= @List.append_nil
abbrev Zf3:= @Array.length_toList
abbrev Zf4:= @Option.bind_some
abbrev Zf5:= @Bool.or_eq_false_iff
abbrev Zf6:= @Bool.not_eq_true'
abbrev Zf7:= @List.eq_nil_of_length_eq_zero
abbrev Zf8:= @Option.getD_none
abbrev Zf9:= @List.length_take
abbrev Zga:= @List.length_drop
abbrev Zgb:= @Nat.min_eq_left
abbrev Zgc:= @Nat.mul_le_mul_right
abbrev Zgd:= @Nat.mul_one
abbrev Zge:= @Bool.true_and
abbrev Zgf:= @List.reverse_cons
abbrev Zgg:= @List.append_assoc
abbrev Zgh:= @List.cons_append
abbrev Zgi:= @Option.getD_some
abbrev Zgj:= @Bool.or_eq_true
abbrev Zgk:= @List.mem_or_eq_of_mem_set
abbrev Zgl:= @Option.map_eq_some_iff
abbrev Zgm:= @List.not_mem_nil
abbrev Zgn:= @List.mem_filter
abbrev Zgo:= @Bool.not_false
abbrev Zgp:= @Bool.and_self
abbrev Zgq:= @List.nodup_cons
abbrev Zgr:= @List.pairwise_cons
abbrev Zgs:= @List.map_congr_left
abbrev Zgt:= @List.pairwise_map
abbrev Zgu:= @List.length_map
abbrev Zgv:= @List.mem_of_getElem?
abbrev Zgw:= @List.map_append
abbrev Zgx:= @List.nodup_append
abbrev Zgy:= @Option.isSome_none
abbrev Zgz:= @List.length_cons
abbrev Zg0:= @List.length_set
abbrev Zg1:= @List.mem_append_left
abbrev Zg2:= @List.length_nil
abbrev Zg3:= @List.pairwise_append
abbrev Zg4:= @Bool.false_and
abbrev Zg5:= @List.getElem_mem
abbrev Zg6:= @List.take_add_one
abbrev Zg7:= @List.take_length
abbrev Zg8:= @List.getElem?_cons_zero
abbrev Zg9:= @List.getElem?_cons_succ
abbrev Zha:= @List.set_cons_succ
abbrev Zhb:= @List.take_succ_cons
abbrev Zhc:= @Nat.not_lt_zero
abbrev Zhd:= @Nat.add_zero
abbrev Zhe:= @Option.isSome_some
abbrev Zhf:= @Bool.not_true
abbrev Zhg:= @List.take_zero
abbrev Zhh:= @List.nil_append
abbrev Zhi:= @List.take_of_length_le
abbrev Zhj:= @Int.toNat_natCast
abbrev Zhk:= @List.getD_cons_succ
abbrev Zhl:= @List.getD_cons_zero
abbrev Zhm:= @List.drop_zero
abbrev Zhn:= @List.drop_succ_cons
abbrev Zho:= @List.drop_eq_getElem_cons
abbrev Zhp:= @Nat.ble_eq_true_of_le
abbrev Zhq:= @Bool.or_self
abbrev Zhr:= @Nat.le_of_lt
abbrev Zhs:= @Nat.le_of_ble_eq_true
abbrev Zht:= @List.all_cons
abbrev Zhu:= @Option.toList_some
abbrev Zhv:= @List.getElem?_drop
abbrev Zhw:= @Nat.add_mul
abbrev Zhx:= @List.getElem?_map
abbrev Zhy:= @List.filter_cons
abbrev Zhz:= @List.length_filter_le
abbrev Zh0:= @List.take_append_of_le_length
abbrev Zh1:= @List.drop_left
abbrev Zh2:= @List.filter_append
abbrev Zh3:= @List.perm_append_singleton
abbrev Zh4:= @Array.all_eq_true_iff_forall_mem
abbrev Zh5:= @List.range'_succ
abbrev Zh6:= @Array.getElem?_setIfInBounds_ne
abbrev Zh7:= @Option.isNone_iff_eq_none
abbrev Zh8:= @List.mem_range
abbrev Zh9:= @List.range_eq_range'
abbrev Zia:= @Array.getD_eq_getD_getElem?
abbrev Zib:= @List.append_eq_nil_iff
abbrev Zic:= @Option.some.injEq
abbrev Zid:= @Result.andThen_ok
abbrev Zie:= @Sem.run_bind
abbrev Zif:= @Sem.run_pure
abbrev Zig:= @decide_eq_true
abbrev Zih:= @decide_eq_false
inductive V where
 |bad
 |bool(b:Bool)
 |int(k:IntKind)(n:Int)
 |str(s:List UInt8)
 |nP
 |ptr(f s o:Nat)
 |iptr(cells:List V)(o:Nat)
 |nS
 |iS(cells:List V)(len:Nat)(full:Bool)
 |gS(f s:Nat)(cells:List V)(len esz:Nat)
 |mS(f s o len:Nat)(cap:Option Nat)(esz:Nat)
 |nM
 |map(f s:Nat)
 |func(fn:Fn)(first captured:List V)
 |nF
 |nI
 |byte
 |face(t:TypeId)(v:V)
 |agg(cells:List V)
 |tuple(vs:List V)
 |yield(f s:Nat)
 |rptr(cells:List V)(o:Nat)
 |mg(f s len esz:Nat)
 |mp(f s o len:Nat)
 deriving Inhabited
inductive O where
 |cells(xs:List V)
 |grow(n:Nat)
 |map(es:List (V×V))(bs:List Nat)(clk:Nat)
 |iter(m:Option (Nat×Nat))(since:Nat)(seen:List Nat)(stepped:Nat)
 |loop(st:Nat)(pend:Option (Option Nat))(fn rid:Nat)(t:List V)
 |siter(l:List UInt8)(pos:Nat)
 |mgrow(xs:List V)(n:Nat)
 |dead
 deriving Inhabited
abbrev Frame:=List (Nat×O)
abbrev Qg:=List Frame
def Qa4:Frame->Nat->Option O
 |[],_=>none
 |(k,o)::r,s=>if s=k then some o else Qa4 r s
def Qae:Frame->Nat->O->Frame
 |[],s,o=>[(s,o)]
 |(k,p)::r,s,o=>if s=k then(s,o)::r else if s<k then(s,o)::(k,p)::r else(k,p)::Qae r s o
def Qd(H:Qg)(f s:Nat):Option O:=
 match H[f]? with
 |some fr=>Qa4 fr s
 |none=>none
def Qs(H:Qg)(f s:Nat)(o:O):Qg:=H.modify f fun fr=>Qae fr s o
theorem Qrm(fr:Frame)(s:Nat)(o:O)(s' :Nat):Qa4 (Qae fr s o) s' =if s' =s then some o else Qa4 fr s' :=by
 induction fr with
 |nil=>simp[Qae,Qa4]
 |cons x r ih=>
  obtain⟨k,p⟩:=x;simp only[Qae];by_cases h1:s=k
  . subst h1;simp only[if_true,Qa4];split<;>rfl
  . simp only[h1,if_false];by_cases h2:s<k
    . simp only[h2,if_true,Qa4]
    . simp only[h2,if_false,Qa4,ih];by_cases h3:s' =k
      . subst h3;simp only[if_true];rw[if_neg];exact fun e=>h1 e.symm
      . simp only[h3,if_false]
theorem B6(H:Qg)(f s:Nat)(o:O)(hf:f<H.length)(f' s' :Nat):
 Qd (Qs H f s o) f' s' =if f' =f/\s' =s then some o else Qd H f' s' :=by
 unfold Qd Qs;rw[Ze2];by_cases h1:f=f'
 . subst h1;rw[Ze3 hf];simp only[if_true,Option.map_eq_map,Ze4,Qrm,true_and]
 . have:¬(f' =f/\s' =s):=fun h=>h1 h.1.symm;simp only[h1,if_false,this,Option.map_eq_map];cases H[f']?<;>rfl
theorem Qa(H:Qg)(f s:Nat)(o:O):(Qs H f s o).length=H.length:=by simp[Qs]
theorem Q9{H:Qg}{f s:Nat}{o:O}(h:Qd H f s=some o):f<H.length:=by
 unfold Qd at h;rcases Ze5 f H.length with g|g
 . exact g
 . rw[Ze6 g] at h;cases h
structure Env where
 w:World
 mu:Nat->Nat->Option Nat
 reg:Nat->Nat->Option (Nat×Nat×Nat×Nat)
 mod:Nat->Nat->Prop
 tab:FuncId->Nat->Option (Array Tmp×Code×Code)
def Row(E:Env)(b off:Nat)(vs:List Value):Prop:=
 ∀i v,vs[i]?=some v->E.w.cell? ⟨b,off+i,none⟩=some v/\¬E.mod b (off+i)
def Qe9(E:Env)(a:Addr)(vs:List Value):Prop:=
 vs=[]\/(a.spot=none/\Row E a.block a.off vs)
mutual
def V.pure:V->Bool
 | .ptr _ _ _| .mS _ _ _ _ _ _| .gS _ _ _ _ _| .map _ _| .yield _ _| .rptr _ _| .mg _ _ _ _| .mp _ _ _ _=>false
 | .func _ a b=>Zt a&&Zt b
 | .face _ v=>v.pure
 | .agg xs| .tuple xs=>Zt xs
 |_=>true
def Zt:List V->Bool
 |[]=>true
 |x::xs=>x.pure&&Zt xs
end
mutual
def Rel(E:Env):V->Value->Prop
 | .bad,_=>True
 | .bool b,v=>v= .bool b
 | .int k n,v=>v= .int k n
 | .str s,v=>v= .string ⟨⟨s⟩⟩
 | .nP,v=>v= .pointer none
 | .ptr f s o,v=>∃b,E.mu f s=some b/\v= .pointer (some ⟨b,o,none⟩)
 | .iptr cells o,v=>∃b off vs,v= .pointer (some ⟨b,off+o,none⟩)/\Row E b off vs/\Qr E cells vs/\Zt cells=true
 | .nS,v=>v= .slice none 0 0
 | .iS cells len full,v=>∃a cap vs,v= .slice (some a) len cap/\len<=cap/\(full=true->cap=len)/\Qe9 E a vs/\Qr E cells vs/\Zt cells=true
 | .gS f s cells len esz,v=>∃b off cap vs,v= .slice (some ⟨b,off,none⟩) len cap/\len<=cap/\Row E b off vs/\Qr E cells vs/\
    cells.length=len*esz/\(E.mu f s).isSome/\
    ∀n b' lo hi,E.reg f s=some (n,b',lo,hi)->len<=n/\(len=n->b' =b/\lo=off+len*esz/\hi=off+cap*esz)
 | .mS f s o len cap esz,v=>∃b c T n,E.mu f s=some b/\v= .slice (some ⟨b,o,none⟩) len c/\len<=c/\(∀k,cap=some k->c=k)/\
    E.w.shape? b=some (T,n)/\o+c*esz<=n/\(cap=none->o+c*esz=n)
 | .mg f s len esz,v=>∃b cap,v= .slice (some ⟨b,0,none⟩) len cap/\len<=cap/\(E.mu f s).isSome/\
    ∀n b' lo hi,E.reg f s=some (n,b',lo,hi)->len<=n/\(len=n->b' =b/\lo=len*esz/\hi=cap*esz)
 | .mp f s o len,v=>∃b,v= .pointer (some ⟨b,o,none⟩)/\(E.mu f s).isSome/\
    ∀n b' lo hi,E.reg f s=some (n,b',lo,hi)->len<=n/\(len=n->b' =b)
 | .nM,v=>v= .map none
 | .map f s,v=>∃b,E.mu f s=some b/\v= .map (some b)
 | .yield f s,v=>∃b,E.mu f s=some b/\v= .func (.yield b) #[] #[]
 | .rptr cells o,v=>∃b off vs,v= .pointer (some ⟨b,off+o,none⟩)/\Row E b off vs/\Qr E cells vs
 | .func fn first captured,v=>∃fs cs,v= .func fn ⟨fs⟩ ⟨cs⟩/\Qr E first fs/\Qr E captured cs
 | .nF,v=>v= .nilFunc
 | .nI,v=>v= .nilIface
 | .byte,v=>∃n,v= .int .u8 n
 | .face t x,v=>∃c,v= .iface t c/\Rel E x c
 | .agg cells,v=>∃vs,v= .agg ⟨vs⟩/\Qr E cells vs
 | .tuple xs,v=>∃vs,v= .tuple ⟨vs⟩/\Qr E xs vs
def Qr(E:Env):List V->List Value->Prop
 |[],vs=>vs=[]
 |x::xs,vs=>∃v r,vs=v::r/\Rel E x v/\Qr E xs r
end
def V.scalar:V->Bool
 | .bad| .agg _| .tuple _=>false
 |_=>true
theorem Rel.oneCell{E:Env}{x:V}{v:Value}(h:Rel E x v)(hx:x.scalar=true):v.oneCell' =true:=by
 cases x<;>simp only[V.scalar,Ze7] at hx<;>simp only[Rel] at h
 case bool=>subst h;rfl
 case int=>subst h;rfl
 case str=>subst h;rfl
 case nP=>subst h;rfl
 case ptr=>obtain⟨_,_,rfl⟩:=h;rfl
 case iptr=>obtain⟨_,_,_,rfl,_⟩:=h;rfl
 case nS=>subst h;rfl
 case iS=>obtain⟨_,_,_,rfl,_⟩:=h;rfl
 case gS=>obtain⟨_,_,_,_,rfl,_⟩:=h;rfl
 case mS=>obtain⟨_,_,_,_,_,rfl,_⟩:=h;rfl
 case nM=>subst h;rfl
 case map=>obtain⟨_,_,rfl⟩:=h;rfl
 case yield=>obtain⟨_,_,rfl⟩:=h;rfl
 case rptr=>obtain⟨_,_,_,rfl,_⟩:=h;rfl
 case mg=>obtain⟨_,_,rfl,_⟩:=h;rfl
 case mp=>obtain⟨_,rfl,_⟩:=h;rfl
 case func=>obtain⟨_,_,rfl,_⟩:=h;rfl
 case nF=>subst h;rfl
 case nI=>subst h;rfl
 case byte=>obtain⟨n,rfl⟩:=h;rfl
 case face=>obtain⟨_,rfl,_⟩:=h;rfl
section lists
variable {E : Env}
theorem Qr.nil_iff{vs:List Value}:Qr E [] vs↔vs=[]:=Iff.rfl
theorem Qr.cons_iff{x:V}{xs:List V}{vs:List Value}:Qr E (x::xs) vs↔∃v r,vs=v::r/\Rel E x v/\Qr E xs r:=by
 constructor
 . intro h;rw[Qr] at h;exact h
 . intro h;rw[Qr];exact h
theorem Qr.cons{x:V}{xs:List V}{v:Value}{vs:List Value}(h:Rel E x v)(hs:Qr E xs vs):Qr E (x::xs) (v::vs):=
 Qr.cons_iff.2 ⟨v,vs,rfl,h,hs⟩
theorem Qr.nil:Qr E [] []:=Qr.nil_iff.2 rfl
theorem Qr.length{xs:List V}:∀{vs:List Value},Qr E xs vs->xs.length=vs.length:=by
 induction xs with
 |nil=>intro vs h;rw[Qr.nil_iff] at h;subst h;rfl
 |cons x xs ih=>intro vs h;obtain⟨v,r,rfl,_,hr⟩:=Qr.cons_iff.1 h;simp[ih hr]
theorem Qr.get{xs:List V}:∀{vs:List Value},Qr E xs vs->∀{i:Nat} {x:V},xs[i]?=some x->∃v,vs[i]?=some v/\Rel E x v:=by
 induction xs with
 |nil=>intro vs h i x hx;simp at hx
 |cons y ys ih=>
  intro vs h i x hx;obtain⟨v,r,rfl,hv,hr⟩:=Qr.cons_iff.1 h;cases i with
  |zero=>simp at hx;subst hx;exact⟨v,by simp,hv⟩
  |succ i=>simp at hx;obtain⟨u,hu,hr⟩:=ih hr hx;exact⟨u,by simpa using hu,hr⟩
theorem Qr.append{xs ys:List V}:∀{vs us:List Value},Qr E xs vs->Qr E ys us->Qr E (xs++ys) (vs++us):=by
 induction xs with
 |nil=>intro vs us h h2;rw[Qr.nil_iff] at h;subst h;exact h2
 |cons x xs ih=>intro vs us h h2;obtain⟨v,r,rfl,hv,hr⟩:=Qr.cons_iff.1 h;exact .cons hv (ih hr h2)
theorem Qr.take{xs:List V}:∀{vs:List Value} (n:Nat),Qr E xs vs->Qr E (xs.take n) (vs.take n):=by
 induction xs with
 |nil=>intro vs n h;rw[Qr.nil_iff] at h;subst h;simp[Qr.nil]
 |cons x xs ih=>
  intro vs n h;obtain⟨v,r,rfl,hv,hr⟩:=Qr.cons_iff.1 h;cases n with
  |zero=>exact .nil
  |succ n=>exact .cons hv (ih n hr)
theorem Qr.drop{xs:List V}:∀{vs:List Value} (n:Nat),Qr E xs vs->Qr E (xs.drop n) (vs.drop n):=by
 induction xs with
 |nil=>intro vs n h;rw[Qr.nil_iff] at h;subst h;simp[Qr.nil]
 |cons x xs ih=>
  intro vs n h;obtain⟨v,r,rfl,hv,hr⟩:=Qr.cons_iff.1 h;cases n with
  |zero=>exact .cons hv hr
  |succ n=>simpa using ih n hr
theorem Qr.set{xs:List V}:∀{vs:List Value} (i:Nat) {x:V} {v:Value},Qr E xs vs->Rel E x v->Qr E (xs.set i x) (vs.set i v):=by
 induction xs with
 |nil=>intro vs i x v h _;rw[Qr.nil_iff] at h;subst h;simp[Qr.nil]
 |cons y ys ih=>
  intro vs i x v h hx;obtain⟨u,r,rfl,hu,hr⟩:=Qr.cons_iff.1 h;cases i with
  |zero=>exact .cons hx hr
  |succ i=>exact .cons hu (ih i hr hx)
theorem Qr.replicate(n:Nat){x:V}{v:Value}(h:Rel E x v):Qr E (List.replicate n x) (List.replicate n v):=by
 induction n with
 |zero=>exact .nil
 |succ n ih=>exact .cons h ih
end lists
structure Ext(k B:Nat)(E E' :Env):Prop where
 size:E.w.heap.size<=E'.w.heap.size
 shape:∀b T n,E.w.shape? b=some (T,n)->E'.w.shape? b=some (T,n)
 cell:∀b i v,¬E.mod b i->E.w.cell? ⟨b,i,none⟩=some v->E'.w.cell? ⟨b,i,none⟩=some v
 mod:∀b i v,E.w.cell? ⟨b,i,none⟩=some v->¬E.mod b i->¬E'.mod b i
 mu:∀f s b,f<k->E.mu f s=some b->E'.mu f s=some b
 reg:∀f s n b lo hi,f<k->(E.mu f s).isSome->E'.reg f s=some (n,b,lo,hi)->
  ∃n0 b0 lo0 hi0,E.reg f s=some (n0,b0,lo0,hi0)/\(n0<n\/(n=n0/\b=b0/\lo=lo0/\hi=hi0))
 old:∀b,b<B->E'.w.heap[b]?=E.w.heap[b]?
 rest:E'.w.tape=E.w.tape/\E'.w.os=E.w.os/\E'.w.output=E.w.output
 tab:E'.tab=E.tab
 dfr:∀b:Nat,E.w.heap[b]?=some (Obj.deferred (some []))->E'.w.heap[b]?=some (Obj.deferred (some []))
theorem Ext.refl(k B:Nat)(E:Env):Ext k B E E where
 size:=Ze8 _
 shape:=fun _ _ _ h=>h
 cell:=fun _ _ _ _ h=>h
 mod:=fun _ _ _ _ h=>h
 mu:=fun _ _ _ _ h=>h
 reg:=fun _ _ n b lo hi _ _ h=>⟨n,b,lo,hi,h,.inr ⟨rfl,rfl,rfl,rfl⟩⟩
 old:=fun _ _=>rfl
 rest:=⟨rfl,rfl,rfl⟩
 tab:=rfl
 dfr:=fun _ h=>h
theorem Ext.trans{k B:Nat}{E₁ E₂ E₃:Env}(h:Ext k B E₁ E₂)(g:Ext k B E₂ E₃):Ext k B E₁ E₃ where
 size:=Ze9 h.size g.size
 shape:=fun b T n e=>g.shape b T n (h.shape b T n e)
 cell:=fun b i v hm e=>g.cell b i v (h.mod b i v e hm) (h.cell b i v hm e)
 mod:=fun b i v e hm=>g.mod b i v (h.cell b i v hm e) (h.mod b i v e hm)
 mu:=fun f s b hf e=>g.mu f s b hf (h.mu f s b hf e)
 reg:=fun f s n b lo hi hf hs e=>by
  have hs2:(E₂.mu f s).isSome:=by
   cases hm:E₁.mu f s with
   |none=>rw[hm] at hs;cases hs
   |some x=>rw[h.mu f s x hf hm];rfl
  obtain⟨n1,b1,lo1,hi1,e1,d1⟩:=g.reg f s n b lo hi hf hs2 e;obtain⟨n0,b0,lo0,hi0,e0,d0⟩:=h.reg f s n1 b1 lo1 hi1 hf hs e1;refine⟨n0,b0,lo0,hi0,e0,?_⟩;rcases d1 with d1|⟨rfl,rfl,rfl,rfl⟩
  . rcases d0 with d0|⟨rfl,_,_,_⟩
    . exact .inl (Nat.lt_trans d0 d1)
    . exact .inl d1
  . exact d0
 old:=fun b hb=>(g.old b hb).trans (h.old b hb)
 rest:=⟨g.rest.1.trans h.rest.1,g.rest.2.1.trans h.rest.2.1,g.rest.2.2.trans h.rest.2.2⟩
 tab:=g.tab.trans h.tab
 dfr:=fun b h0=>g.dfr b (h.dfr b h0)
theorem Ext.less{k k' B B' :Nat}{E E' :Env}(h:Ext k B E E')(hk:k' <=k)(hB:B' <=B):Ext k' B' E E' where
 size:=h.size
 shape:=h.shape
 cell:=h.cell
 mod:=h.mod
 mu:=fun f s b hf=>h.mu f s b (Zfa hf hk)
 reg:=fun f s n b lo hi hf=>h.reg f s n b lo hi (Zfa hf hk)
 old:=fun b hb=>h.old b (Zfa hb hB)
 rest:=h.rest
 tab:=h.tab
 dfr:=h.dfr
theorem Row.mono{k B:Nat}{E E' :Env}(h:Ext k B E E'){b off:Nat}{vs:List Value}(r:Row E b off vs):Row E' b off vs:=
 fun i v hv=>⟨h.cell _ _ _ (r i v hv).2 (r i v hv).1,h.mod _ _ _ (r i v hv).1 (r i v hv).2⟩
theorem Qe9.mono{k B:Nat}{E E' :Env}(h:Ext k B E E'){a:Addr}{vs:List Value}(r:Qe9 E a vs):Qe9 E' a vs:=
 r.imp id fun⟨hs,hr⟩=>⟨hs,hr.mono h⟩
mutual
theorem Rel.mono{k B:Nat}{E E' :Env}(h:Ext k B E E')(hk:∀f s,(E.mu f s).isSome->f<k):∀(x:V) (v:Value),Rel E x v->Rel E' x v
 | .bad,_,_=>by simp[Rel]
 | .bool _,_,r| .int _ _,_,r| .str _,_,r| .nP,_,r| .nS,_,r| .nM,_,r| .nF,_,r| .nI,_,r| .byte,_,r=>by
   simpa only[Rel] using r
 | .ptr f s o,_,r=>by
   simp only[Rel] at r⊢;obtain⟨b,hb,rfl⟩:=r;exact⟨b,h.mu f s b (hk f s (by simp[hb])) hb,rfl⟩
 | .iptr cells o,_,r=>by
   simp only[Rel] at r⊢;obtain⟨b,off,vs,rfl,hr,hl,hp⟩:=r;exact⟨b,off,vs,rfl,hr.mono h,Qr.mono h hk cells vs hl,hp⟩
 | .rptr cells o,_,r=>by
   simp only[Rel] at r⊢;obtain⟨b,off,vs,rfl,hr,hl⟩:=r;exact⟨b,off,vs,rfl,hr.mono h,Qr.mono h hk cells vs hl⟩
 | .iS cells len full,_,r=>by
   simp only[Rel] at r⊢;obtain⟨a,cap,vs,rfl,h1,h2,hr,hl,hp⟩:=r;exact⟨a,cap,vs,rfl,h1,h2,hr.mono h,Qr.mono h hk cells vs hl,hp⟩
 | .gS f s cells len esz,_,r=>by
   simp only[Rel] at r⊢;obtain⟨b,off,cap,vs,rfl,h1,hr,hl,hlen,hmu,hreg⟩:=r;have hf:=hk f s hmu;refine⟨b,off,cap,vs,rfl,h1,hr.mono h,Qr.mono h hk cells vs hl,hlen,?_,?_⟩
   . cases hm:E.mu f s with
     |none=>rw[hm] at hmu;cases hmu
     |some x=>rw[h.mu f s x hf hm];rfl
   . intro n b' lo hi e;obtain⟨n0,b0,lo0,hi0,e0,d⟩:=h.reg f s n b' lo hi hf hmu e;obtain⟨hle,heq⟩:=hreg n0 b0 lo0 hi0 e0;rcases d with d|⟨rfl,rfl,rfl,rfl⟩
     . exact⟨by omega,fun e' =>by omega⟩
     . exact⟨hle,heq⟩
 | .mS f s o len cap esz,_,r=>by
   simp only[Rel] at r⊢;obtain⟨b,c,T,n,hb,rfl,h1,h2,h3,h4⟩:=r;exact⟨b,c,T,n,h.mu f s b (hk f s (by simp[hb])) hb,rfl,h1,h2,h.shape _ _ _ h3,h4⟩
 | .mg f s len esz,_,r=>by
   simp only[Rel] at r⊢;obtain⟨b,cap,rfl,h1,hmu,hreg⟩:=r;have hf:=hk f s hmu;refine⟨b,cap,rfl,h1,?_,?_⟩
   . cases hm:E.mu f s with
     |none=>rw[hm] at hmu;cases hmu
     |some x=>rw[h.mu f s x hf hm];rfl
   . intro n b' lo hi e;obtain⟨n0,b0,lo0,hi0,e0,d⟩:=h.reg f s n b' lo hi hf hmu e;obtain⟨hle,heq⟩:=hreg n0 b0 lo0 hi0 e0;rcases d with d|⟨rfl,rfl,rfl,rfl⟩
     . exact⟨by omega,fun e' =>by omega⟩
     . exact⟨hle,heq⟩
 | .mp f s o len,_,r=>by
   simp only[Rel] at r⊢;obtain⟨b,rfl,hmu,hreg⟩:=r;have hf:=hk f s hmu;refine⟨b,rfl,?_,?_⟩
   . cases hm:E.mu f s with
     |none=>rw[hm] at hmu;cases hmu
     |some x=>rw[h.mu f s x hf hm];rfl
   . intro n b' lo hi e;obtain⟨n0,b0,lo0,hi0,e0,d⟩:=h.reg f s n b' lo hi hf hmu e;obtain⟨hle,heq⟩:=hreg n0 b0 lo0 hi0 e0;rcases d with d|⟨rfl,rfl,rfl,rfl⟩
     . exact⟨by omega,fun e' =>by omega⟩
     . exact⟨hle,heq⟩
 | .map f s,_,r=>by
   simp only[Rel] at r⊢;obtain⟨b,hb,rfl⟩:=r;exact⟨b,h.mu f s b (hk f s (by simp[hb])) hb,rfl⟩
 | .yield f s,_,r=>by
   simp only[Rel] at r⊢;obtain⟨b,hb,rfl⟩:=r;exact⟨b,h.mu f s b (hk f s (by simp[hb])) hb,rfl⟩
 | .func fn first captured,_,r=>by
   simp only[Rel] at r⊢;obtain⟨fs,cs,rfl,h1,h2⟩:=r;exact⟨fs,cs,rfl,Qr.mono h hk first fs h1,Qr.mono h hk captured cs h2⟩
 | .face t x,_,r=>by
   simp only[Rel] at r⊢;obtain⟨c,rfl,hc⟩:=r;exact⟨c,rfl,Rel.mono h hk x c hc⟩
 | .agg cells,_,r=>by
   simp only[Rel] at r⊢;obtain⟨vs,rfl,hl⟩:=r;exact⟨vs,rfl,Qr.mono h hk cells vs hl⟩
 | .tuple cells,_,r=>by
   simp only[Rel] at r⊢;obtain⟨vs,rfl,hl⟩:=r;exact⟨vs,rfl,Qr.mono h hk cells vs hl⟩
theorem Qr.mono{k B:Nat}{E E' :Env}(h:Ext k B E E')(hk:∀f s,(E.mu f s).isSome->f<k):∀(xs:List V) (vs:List Value),Qr E xs vs->Qr E' xs vs
 |[],_,r=>r
 |x::xs,_,r=>by
  obtain⟨v,r',rfl,hv,hr⟩:=Qr.cons_iff.1 r;exact .cons (Rel.mono h hk x v hv) (Qr.mono h hk xs r' hr)
end
structure Lite(k:Nat)(E E' :Env):Prop where
 shape:∀b T n,E.w.shape? b=some (T,n)->E'.w.shape? b=some (T,n)
 cell:∀b i v,¬E.mod b i->E.w.cell? ⟨b,i,none⟩=some v->E'.w.cell? ⟨b,i,none⟩=some v
 mod:∀b i v,E.w.cell? ⟨b,i,none⟩=some v->¬E.mod b i->¬E'.mod b i
 mu:∀f s b,f<k->E.mu f s=some b->E'.mu f s=some b
 reg:∀f s n b lo hi,f<k->(E.mu f s).isSome->E'.reg f s=some (n,b,lo,hi)->
  ∃n0 b0 lo0 hi0,E.reg f s=some (n0,b0,lo0,hi0)/\(n0<n\/(n=n0/\b=b0/\lo=lo0/\hi=hi0))
theorem Row.lite{k:Nat}{E E' :Env}(h:Lite k E E'){b off:Nat}{vs:List Value}(r:Row E b off vs):Row E' b off vs:=
 fun i v hv=>⟨h.cell _ _ _ (r i v hv).2 (r i v hv).1,h.mod _ _ _ (r i v hv).1 (r i v hv).2⟩
theorem Qe9.lite{k:Nat}{E E' :Env}(h:Lite k E E'){a:Addr}{vs:List Value}(r:Qe9 E a vs):Qe9 E' a vs:=
 r.imp id fun⟨hs,hr⟩=>⟨hs,hr.lite h⟩
mutual
theorem Rel.lite{k:Nat}{E E' :Env}(h:Lite k E E')(hk:∀f s,(E.mu f s).isSome->f<k):∀(x:V) (v:Value),Rel E x v->Rel E' x v
 | .bad,_,_=>by simp[Rel]
 | .bool _,_,r| .int _ _,_,r| .str _,_,r| .nP,_,r| .nS,_,r| .nM,_,r| .nF,_,r| .nI,_,r| .byte,_,r=>by
   simpa only[Rel] using r
 | .ptr f s o,_,r=>by
   simp only[Rel] at r⊢;obtain⟨b,hb,rfl⟩:=r;exact⟨b,h.mu f s b (hk f s (by simp[hb])) hb,rfl⟩
 | .iptr cells o,_,r=>by
   simp only[Rel] at r⊢;obtain⟨b,off,vs,rfl,hr,hl,hp⟩:=r;exact⟨b,off,vs,rfl,hr.lite h,Qr.lite h hk cells vs hl,hp⟩
 | .rptr cells o,_,r=>by
   simp only[Rel] at r⊢;obtain⟨b,off,vs,rfl,hr,hl⟩:=r;exact⟨b,off,vs,rfl,hr.lite h,Qr.lite h hk cells vs hl⟩
 | .iS cells len full,_,r=>by
   simp only[Rel] at r⊢;obtain⟨a,cap,vs,rfl,h1,h2,hr,hl,hp⟩:=r;exact⟨a,cap,vs,rfl,h1,h2,hr.lite h,Qr.lite h hk cells vs hl,hp⟩
 | .gS f s cells len esz,_,r=>by
   simp only[Rel] at r⊢;obtain⟨b,off,cap,vs,rfl,h1,hr,hl,hlen,hmu,hreg⟩:=r;have hf:=hk f s hmu;refine⟨b,off,cap,vs,rfl,h1,hr.lite h,Qr.lite h hk cells vs hl,hlen,?_,?_⟩
   . cases hm:E.mu f s with
     |none=>rw[hm] at hmu;cases hmu
     |some x=>rw[h.mu f s x hf hm];rfl
   . intro n b' lo hi e;obtain⟨n0,b0,lo0,hi0,e0,d⟩:=h.reg f s n b' lo hi hf hmu e;obtain⟨hle,heq⟩:=hreg n0 b0 lo0 hi0 e0;rcases d with d|⟨rfl,rfl,rfl,rfl⟩
     . exact⟨by omega,fun e' =>by omega⟩
     . exact⟨hle,heq⟩
 | .mS f s o len cap esz,_,r=>by
   simp only[Rel] at r⊢;obtain⟨b,c,T,n,hb,rfl,h1,h2,h3,h4⟩:=r;exact⟨b,c,T,n,h.mu f s b (hk f s (by simp[hb])) hb,rfl,h1,h2,h.shape _ _ _ h3,h4⟩
 | .mg f s len esz,_,r=>by
   simp only[Rel] at r⊢;obtain⟨b,cap,rfl,h1,hmu,hreg⟩:=r;have hf:=hk f s hmu;refine⟨b,cap,rfl,h1,?_,?_⟩
   . cases hm:E.mu f s with
     |none=>rw[hm] at hmu;cases hmu
     |some x=>rw[h.mu f s x hf hm];rfl
   . intro n b' lo hi e;obtain⟨n0,b0,lo0,hi0,e0,d⟩:=h.reg f s n b' lo hi hf hmu e;obtain⟨hle,heq⟩:=hreg n0 b0 lo0 hi0 e0;rcases d with d|⟨rfl,rfl,rfl,rfl⟩
     . exact⟨by omega,fun e' =>by omega⟩
     . exact⟨hle,heq⟩
 | .mp f s o len,_,r=>by
   simp only[Rel] at r⊢;obtain⟨b,rfl,hmu,hreg⟩:=r;have hf:=hk f s hmu;refine⟨b,rfl,?_,?_⟩
   . cases hm:E.mu f s with
     |none=>rw[hm] at hmu;cases hmu
     |some x=>rw[h.mu f s x hf hm];rfl
   . intro n b' lo hi e;obtain⟨n0,b0,lo0,hi0,e0,d⟩:=h.reg f s n b' lo hi hf hmu e;obtain⟨hle,heq⟩:=hreg n0 b0 lo0 hi0 e0;rcases d with d|⟨rfl,rfl,rfl,rfl⟩
     . exact⟨by omega,fun e' =>by omega⟩
     . exact⟨hle,heq⟩
 | .map f s,_,r=>by
   simp only[Rel] at r⊢;obtain⟨b,hb,rfl⟩:=r;exact⟨b,h.mu f s b (hk f s (by simp[hb])) hb,rfl⟩
 | .yield f s,_,r=>by
   simp only[Rel] at r⊢;obtain⟨b,hb,rfl⟩:=r;exact⟨b,h.mu f s b (hk f s (by simp[hb])) hb,rfl⟩
 | .func fn first captured,_,r=>by
   simp only[Rel] at r⊢;obtain⟨fs,cs,rfl,h1,h2⟩:=r;exact⟨fs,cs,rfl,Qr.lite h hk first fs h1,Qr.lite h hk captured cs h2⟩
 | .face t x,_,r=>by
   simp only[Rel] at r⊢;obtain⟨c,rfl,hc⟩:=r;exact⟨c,rfl,Rel.lite h hk x c hc⟩
 | .agg cells,_,r=>by
   simp only[Rel] at r⊢;obtain⟨vs,rfl,hl⟩:=r;exact⟨vs,rfl,Qr.lite h hk cells vs hl⟩
 | .tuple cells,_,r=>by
   simp only[Rel] at r⊢;obtain⟨vs,rfl,hl⟩:=r;exact⟨vs,rfl,Qr.lite h hk cells vs hl⟩
theorem Qr.lite{k:Nat}{E E' :Env}(h:Lite k E E')(hk:∀f s,(E.mu f s).isSome->f<k):∀(xs:List V) (vs:List Value),Qr E xs vs->Qr E' xs vs
 |[],_,r=>r
 |x::xs,_,r=>by
  obtain⟨v,r',rfl,hv,hr⟩:=Qr.cons_iff.1 r;exact .cons (Rel.lite h hk x v hv) (Qr.lite h hk xs r' hr)
end
end Go.AM
end
section
namespace Go.AM
def Js(E:Env):List (V×V)->List MapEntry->Prop
 |[],ces=>ces=[]
 |(k,x)::r,ces=>∃e r',ces=e::r' /\Rel E k e.key/\Rel E x e.val/\Js E r r'
theorem Js.mono{k B:Nat}{E E' :Env}(h:Ext k B E E')(hk:∀f s,(E.mu f s).isSome->f<k):∀(es:List (V×V)) (ces:List MapEntry),Js E es ces->Js E' es ces
 |[],_,r=>r
 |(_,_)::es,_,⟨e,r',he,h1,h2,h3⟩=>⟨e,r',he,Rel.mono h hk _ _ h1,Rel.mono h hk _ _ h2,Js.mono h hk es r' h3⟩
def Qy5:Option (Option Nat)->Option Code
 |none=>none
 |some none=>some .ret
 |some (some i)=>some (.exit i)
def stL:Nat->LoopState
 |0=> .ready
 |1=> .busy
 |2=> .done
 |_=> .exhausted
def O.cnt:O->Option Nat
 | .grow n=>some n
 | .mgrow _ n=>some n
 |_=>none
def Qo3(B:Nat)(E:Env)(f s:Nat):O->Prop
 | .cells xs=>∃b c T vs rest,E.mu f s=some b/\B<=b/\E.w.heap[b]?=some (.cells c T (0,0))/\c.toList=vs++rest/\Qr E xs vs/\
    (∀i,E.mod b i)/\xs.all V.scalar=true
 | .map es bs clk=>∃b ces,E.mu f s=some b/\B<=b/\E.w.heap[b]?=some (.map ces clk)/\Js E es ces.toList/\ces.toList.map (·.born)=bs
 | .iter m since seen stepped=>∃b mb,E.mu f s=some b/\B<=b/\E.w.heap[b]?=some (.mapIter mb since ⟨seen⟩ stepped)/\(match m with|none=>mb=none|some x=>∃r,mb=some r/\E.mu x.1 x.2=some r)
 | .grow n=>∃b lo hi c T z,E.reg f s=some (n,b,lo,hi)/\B<=b/\E.w.heap[b]?=some (.cells c T z)/\hi<=c.size/\(∀i,lo<=i->i<hi->E.mod b i)/\(z=(0,0)\/hi<=z.1)
 | .loop st pend fn rid t=>∃b r,E.mu f s=some b/\B<=b/\E.w.heap[b]?=some (.loop r)/\r.state=stL st/\r.pending=Qy5 pend/\E.tab fn rid=some (r.params,r.assign,r.body)/\Qr E t r.tmps.toList
 | .siter l pos=>∃b,E.mu f s=some b/\B<=b/\E.w.heap[b]?=some (.stringIter ⟨⟨l⟩⟩ pos)
 | .mgrow xs n=>∃b lo hi c T vs rest,E.reg f s=some (n,b,lo,hi)/\B<=b/\E.w.heap[b]?=some (.cells c T (0,0))/\hi<=c.size/\c.toList=vs++rest/\Qr E xs vs/\
    (∀i,E.mod b i)/\xs.all V.scalar=true
 | .dead=>True
def blk(E:Env)(f s:Nat):O->Option Nat
 | .cells _| .map _ _ _| .iter _ _ _ _| .loop _ _ _ _ _| .siter _ _=>E.mu f s
 | .grow _| .mgrow _ _=>(E.reg f s).map (·.2.1)
 | .dead=>none
structure Sim(B:Nat)(F:Nat->Nat->Prop)(H:Qg)(E:Env):Prop where
 dom:∀f s,(Qd H f s).isSome=(E.mu f s).isSome
 bsz:B<=E.w.heap.size
 fb:∀b i,F b i->b<B
 fmod:∀b i,F b i->E.mod b i
 modsz:∀b i,E.mod b i->b<E.w.heap.size
 obj:∀f s o,Qd H f s=some o->Qo3 B E f s o
 nreg:∀f s n x,E.reg f s=some (n,x)->∃o,Qd H f s=some o/\o.cnt=some n
 inj:∀f s o f' s' o' b,Qd H f s=some o->Qd H f' s' =some o' ->blk E f s o=some b->blk E f' s' o' =some b->f=f' /\s=s'
theorem Sim.lt{B:Nat}{F:Nat->Nat->Prop}{H:Qg}{E:Env}(S:Sim B F H E):∀f s,(E.mu f s).isSome->f<H.length:=by
 intro f s h;rw[<-S.dom] at h;cases hh:Qd H f s with
 |none=>rw[hh] at h;cases h
 |some o=>exact Q9 hh
theorem Qo3.blk_ge{B:Nat}{E:Env}{f s:Nat}{o:O}(h:Qo3 B E f s o){b:Nat}(hb:blk E f s o=some b):B<=b/\b<E.w.heap.size:=by
 cases o with
 |cells xs=>
  obtain⟨b',c,T,vs,rest,h1,h2,h3,_⟩:=h;simp only[blk,h1,Zic] at hb;subst hb;exact⟨h2,(Zfb.1 h3).1⟩
 |map es bs clk=>
  obtain⟨b',ces,h1,h2,h3,_⟩:=h;simp only[blk,h1,Zic] at hb;subst hb;exact⟨h2,(Zfb.1 h3).1⟩
 |iter m since seen stepped=>
  obtain⟨b',mb,h1,h2,h3,_⟩:=h;simp only[blk,h1,Zic] at hb;subst hb;exact⟨h2,(Zfb.1 h3).1⟩
 |grow n=>
  obtain⟨b',lo,hi,c,T,z,h1,h2,h3,_⟩:=h;simp only[blk,h1,Ze4,Zic] at hb;subst hb;exact⟨h2,(Zfb.1 h3).1⟩
 |loop st pend fn rid t=>
  obtain⟨b',r,h1,h2,h3,_⟩:=h;simp only[blk,h1,Zic] at hb;subst hb;exact⟨h2,(Zfb.1 h3).1⟩
 |siter l pos=>
  obtain⟨b',h1,h2,h3⟩:=h;simp only[blk,h1,Zic] at hb;subst hb;exact⟨h2,(Zfb.1 h3).1⟩
 |mgrow xs n=>
  obtain⟨b',lo,hi,c,T,vs,rest,h1,h2,h3,_⟩:=h;simp only[blk,h1,Ze4,Zic] at hb;subst hb;exact⟨h2,(Zfb.1 h3).1⟩
 |dead=>cases hb
theorem Qo3.mono{B k:Nat}{E E' :Env}{f s:Nat}{o:O}(X:Ext k B E E')(hk:∀f s,(E.mu f s).isSome->f<k)(h:Qo3 B E f s o)
 (hmu:E'.mu f s=E.mu f s)(hreg:E'.reg f s=E.reg f s)
 (hb:∀b,blk E f s o=some b->E'.w.heap[b]?=E.w.heap[b]?/\∀i,E.mod b i->E'.mod b i):Qo3 B E' f s o:=by
 cases o with
 |cells xs=>
  obtain⟨b,c,T,vs,rest,h1,h2,h3,h4,h5,h6,h7⟩:=h;obtain⟨g1,g2⟩:=hb b (by simp[blk,h1]);exact⟨b,c,T,vs,rest,hmu.trans h1,h2,g1.trans h3,h4,Qr.mono X hk _ _ h5,fun i=>g2 i (h6 i),h7⟩
 |map es bs clk=>
  obtain⟨b,ces,h1,h2,h3,h4,h5⟩:=h;obtain⟨g1,g2⟩:=hb b (by simp[blk,h1]);exact⟨b,ces,hmu.trans h1,h2,g1.trans h3,Js.mono X hk _ _ h4,h5⟩
 |iter m since seen stepped=>
  obtain⟨b,mb,h1,h2,h3,h4⟩:=h;obtain⟨g1,g2⟩:=hb b (by simp[blk,h1]);refine⟨b,mb,hmu.trans h1,h2,g1.trans h3,?_⟩;cases m with
  |none=>exact h4
  |some x=>obtain⟨r,h5,h6⟩:=h4;exact⟨r,h5,X.mu _ _ _ (hk x.1 x.2 (by rw[h6];rfl)) h6⟩
 |grow n=>
  obtain⟨b,lo,hi,c,T,z,h1,h2,h3,h4,h5,h6⟩:=h;obtain⟨g1,g2⟩:=hb b (by simp[blk,h1]);exact⟨b,lo,hi,c,T,z,hreg.trans h1,h2,g1.trans h3,h4,fun i a e=>g2 i (h5 i a e),h6⟩
 |loop st pend fn rid t=>
  obtain⟨b,r,h1,h2,h3,h4,h5,h7,h8⟩:=h;obtain⟨g1,g2⟩:=hb b (by simp[blk,h1]);exact⟨b,r,hmu.trans h1,h2,g1.trans h3,h4,h5,by rw[X.tab];exact h7,Qr.mono X hk _ _ h8⟩
 |siter l pos=>
  obtain⟨b,h1,h2,h3⟩:=h;obtain⟨g1,g2⟩:=hb b (by simp[blk,h1]);exact⟨b,hmu.trans h1,h2,g1.trans h3⟩
 |mgrow xs n=>
  obtain⟨b,lo,hi,c,T,vs,rest,h1,h2,h3,h4,h5,h6,h7,h8⟩:=h;obtain⟨g1,g2⟩:=hb b (by simp[blk,h1]);exact⟨b,lo,hi,c,T,vs,rest,hreg.trans h1,h2,g1.trans h3,h4,h5,Qr.mono X hk _ _ h6,fun i=>g2 i (h7 i),h8⟩
 |dead=>trivial
theorem Sim.step{B:Nat}{F:Nat->Nat->Prop}{H:Qg}{E E' :Env}(S:Sim B F H E)(f0 s0:Nat)(o' :O)(hf:f0<H.length)
 (X:Ext H.length B E E')
 (hmu:∀f s,¬(f=f0/\s=s0)->E'.mu f s=E.mu f s)(hmu0:(E'.mu f0 s0).isSome=true)
 (hreg:∀f s,¬(f=f0/\s=s0)->E'.reg f s=E.reg f s)
 (hreg0:∀n x,E'.reg f0 s0=some (n,x)->o'.cnt=some n)
 (hoth:∀f s o b,¬(f=f0/\s=s0)->Qd H f s=some o->blk E f s o=some b->E'.w.heap[b]?=E.w.heap[b]?/\∀i,E.mod b i->E'.mod b i)
 (hmod:∀b i,F b i->E'.mod b i)(hsz:∀b i,E'.mod b i->b<E'.w.heap.size)
 (hobj:Qo3 B E' f0 s0 o')
 (hdis:∀f s o b,¬(f=f0/\s=s0)->Qd H f s=some o->blk E f s o=some b->blk E' f0 s0 o' ≠some b):
 Sim B F (Qs H f0 s0 o') E' :=by
 have hget' :=B6 H f0 s0 o' hf;have hblk:∀f s o,¬(f=f0/\s=s0)->blk E' f s o=blk E f s o:=by intro f s o hne;cases o<;>simp only[blk,hmu f s hne,hreg f s hne]
 refine⟨?_,Ze9 S.bsz X.size,S.fb,hmod,hsz,?_,?_,?_⟩
 . intro f s;rw[hget'];by_cases h:f=f0/\s=s0
   . rw[if_pos h];obtain⟨rfl,rfl⟩:=h;simp[hmu0]
   . rw[if_neg h,hmu f s h];exact S.dom f s
 . intro f s o ho;rw[hget'] at ho;by_cases h:f=f0/\s=s0
   . rw[if_pos h] at ho;obtain⟨rfl,rfl⟩:=h;cases ho;exact hobj
   . rw[if_neg h] at ho;exact(S.obj f s o ho).mono X S.lt (hmu f s h) (hreg f s h) (fun b hb=>hoth f s o b h ho hb)
 . intro f s n x hr;rw[hget'];by_cases h:f=f0/\s=s0
   . rw[if_pos h];obtain⟨rfl,rfl⟩:=h;exact⟨o',rfl,hreg0 n x hr⟩
   . rw[if_neg h];rw[hreg f s h] at hr;exact S.nreg f s n x hr
 . intro f s o f' s' o'' b ho ho' hb hb';rw[hget'] at ho ho';by_cases h:f=f0/\s=s0
   . rw[if_pos h] at ho;cases ho;by_cases h' :f' =f0/\s' =s0
     . exact⟨h.1.trans h'.1.symm,h.2.trans h'.2.symm⟩
     . rw[if_neg h'] at ho';rw[hblk f' s' o'' h'] at hb';obtain⟨rfl,rfl⟩:=h;exact absurd hb (hdis f' s' o'' b h' ho' hb')
   . rw[if_neg h] at ho;rw[hblk f s o h] at hb;by_cases h' :f' =f0/\s' =s0
     . rw[if_pos h'] at ho';cases ho';obtain⟨rfl,rfl⟩:=h';exact absurd hb' (hdis f s o b h ho hb)
     . rw[if_neg h'] at ho';rw[hblk f' s' o'' h'] at hb';exact S.inj f s o f' s' o'' b ho ho' hb hb'
def Env.push(E:Env)(o:Obj)(d:Nat):World:={E.w with heap:=E.w.heap.push o,drawn:=d}
theorem K4(E:Env)(o:Obj)(d b:Nat)(h:b<E.w.heap.size):(E.push o d).heap[b]?=E.w.heap[b]?:=by simp[Env.push,Array.getElem?_push,Zfc h]
theorem Kw(E:Env)(o:Obj)(d:Nat):(E.push o d).heap[E.w.heap.size]?=some o:=by simp[Env.push]
theorem K5{w w' :World}{b:Nat}(h:w'.heap[b]?=w.heap[b]?)(i:Nat):w'.cell? ⟨b,i,none⟩=w.cell? ⟨b,i,none⟩:=by simp only[World.cell?,h]
theorem Kr{w w' :World}{b:Nat}(h:w'.heap[b]?=w.heap[b]?):w'.shape? b=w.shape? b:=by simp only[World.shape?,h]
theorem Qsg{w:World}{b i:Nat}{v:Value}(h:w.cell? ⟨b,i,none⟩=some v):b<w.heap.size:=by
 rcases Ze5 b w.heap.size with g|g
 . exact g
 . simp[World.cell?,Array.getElem?_eq_none g] at h
theorem Qt4{w:World}{b:Nat}{x:TypeId×Nat}(h:w.shape? b=some x):b<w.heap.size:=by
 rcases Ze5 b w.heap.size with g|g
 . exact g
 . simp[World.shape?,Array.getElem?_eq_none g] at h
theorem B5{k B:Nat}{E:Env}(hB:B<=E.w.heap.size)(o:Obj)(d:Nat)(mu' :Nat->Nat->Option Nat)(reg' :Nat->Nat->Option (Nat×Nat×Nat×Nat))(mod' :Nat->Nat->Prop)
 (hmu:∀f s b,E.mu f s=some b->mu' f s=some b)
 (hreg:∀f s n b lo hi,(E.mu f s).isSome=true->reg' f s=some (n,b,lo,hi)->
   ∃n0 b0 lo0 hi0,E.reg f s=some (n0,b0,lo0,hi0)/\(n0<n\/(n=n0/\b=b0/\lo=lo0/\hi=hi0)))
 (hmod:∀b i,b<E.w.heap.size->¬E.mod b i->¬mod' b i):
 Ext k B E {w:=E.push o d,mu:=mu',reg:=reg',mod:=mod',tab:=E.tab} where
 size:=by simp[Env.push]
 shape:=fun b T n h=>by rw[Kr (K4 E o d b (Qt4 h))];exact h
 cell:=fun b i v _ h=>by rw[K5 (K4 E o d b (Qsg h))];exact h
 mod:=fun b i v h hm=>hmod b i (Qsg h) hm
 mu:=fun f s b _ h=>hmu f s b h
 reg:=fun f s n b lo hi _ hs h=>hreg f s n b lo hi hs h
 old:=fun b hb=>K4 E o d b (Zfa hb hB)
 rest:=⟨rfl,rfl,rfl⟩
 tab:=rfl
 dfr:=fun b h=>by rw[K4 E o d b (Zfb.1 h).1];exact h
def upd{α:Type}(g:Nat->Nat->α)(f0 s0:Nat)(x:α):Nat->Nat->α:=fun f s=>if f=f0/\s=s0 then x else g f s
theorem Q0{α:Type}(g:Nat->Nat->α)(f0 s0:Nat)(x:α):upd g f0 s0 x f0 s0=x:=by simp[upd]
theorem Zp{α:Type}(g:Nat->Nat->α){f0 s0 f s:Nat}(x:α)(h:¬(f=f0/\s=s0)):upd g f0 s0 x f s=g f s:=by simp[upd,h]
section
variable {B : Nat} {F : Nat -> Nat -> Prop} {H : Qg} {E : Env}
theorem Sim.mu_none(S:Sim B F H E){f s:Nat}(h:Qd H f s=none):E.mu f s=none:=by
 have:=S.dom f s;rw[h] at this;cases hm:E.mu f s with
 |none=>rfl
 |some x=>rw[hm] at this;cases this
theorem Sim.reg_none(S:Sim B F H E){f s:Nat}(h:Qd H f s=none):E.reg f s=none:=by
 cases hm:E.reg f s with
 |none=>rfl
 |some x=>obtain⟨n,x⟩:=x;obtain⟨o,h1,_⟩:=S.nreg f s n x hm;rw[h1] at h;cases h
theorem Sim.blk_lt(S:Sim B F H E){f s:Nat}{o:O}{b:Nat}(h:Qd H f s=some o)(hb:blk E f s o=some b):b<E.w.heap.size:=
 ((S.obj f s o h).blk_ge hb).2
def Env.newCells(E:Env)(f0 s0:Nat)(c:List Value)(T:TypeId)(d:Nat):Env:=
 {w:=E.push (.cells ⟨c⟩ T) d,mu:=upd E.mu f0 s0 (some E.w.heap.size),reg:=E.reg,mod:=fun b i=>E.mod b i\/b=E.w.heap.size,tab:=E.tab}
theorem Sim.newCells(S:Sim B F H E){f0 s0:Nat}(hf:f0<H.length)(hn:Qd H f0 s0=none)(xs:List V)(vs rest:List Value)(T:TypeId)(d:Nat)
 (hr:Qr E xs vs)(hx:xs.all V.scalar=true):
 Ext H.length B E (E.newCells f0 s0 (vs++rest) T d)/\Sim B F (Qs H f0 s0 (.cells xs)) (E.newCells f0 s0 (vs++rest) T d):=by
 have hmn:=S.mu_none hn;have X:Ext H.length B E (E.newCells f0 s0 (vs++rest) T d):=by
  refine B5 S.bsz _ d _ _ _ ?_ ?_ ?_
  . intro f s b h;by_cases e:f=f0/\s=s0
    . rw[e.1,e.2,hmn] at h;cases h
    . rw[Zp _ _ e];exact h
  . exact fun f s n b lo hi _ h=>⟨n,b,lo,hi,h,.inr ⟨rfl,rfl,rfl,rfl⟩⟩
  . intro b i hb hm h;rcases h with h|h
    . exact hm h
    . omega
 refine⟨X,S.step f0 s0 _ hf X (fun f s e=>Zp _ _ e) (by simp[Env.newCells,Q0]) (fun f s e=>rfl) ?_ ?_ ?_ ?_ ?_ ?_⟩
 . intro n x h;have:=S.reg_none hn;simp only[Env.newCells] at h;rw[this] at h;cases h
 . intro f s o b e ho hb;exact⟨K4 E _ d b (S.blk_lt ho hb),fun i h=> .inl h⟩
 . exact fun b i h=> .inl (S.fmod b i h)
 . intro b i h;simp only[Env.newCells,Env.push,Zfd] at h⊢;rcases h with h|h
   . exact Zfe (S.modsz b i h)
   . omega
 . exact⟨E.w.heap.size,⟨vs++rest⟩,T,vs,rest,Q0 _ _ _ _,S.bsz,Kw E _ d,rfl,Qr.mono X S.lt _ _ hr,fun i=> .inr rfl,hx⟩
 . intro f s o b e ho hb h;simp only[blk,Env.newCells,Q0,Zic] at h;have:=S.blk_lt ho hb;omega
def Env.newMap(E:Env)(f0 s0:Nat)(d:Nat):Env:=
 {w:=E.push (.map #[] 0) d,mu:=upd E.mu f0 s0 (some E.w.heap.size),reg:=E.reg,mod:=E.mod,tab:=E.tab}
theorem Sim.newMap(S:Sim B F H E){f0 s0:Nat}(hf:f0<H.length)(hn:Qd H f0 s0=none)(d:Nat):
 Ext H.length B E (E.newMap f0 s0 d)/\Sim B F (Qs H f0 s0 (.map [] [] 0)) (E.newMap f0 s0 d):=by
 have hmn:=S.mu_none hn;have X:Ext H.length B E (E.newMap f0 s0 d):=by
  refine B5 S.bsz _ d _ _ _ ?_ ?_ ?_
  . intro f s b h;by_cases e:f=f0/\s=s0
    . rw[e.1,e.2,hmn] at h;cases h
    . rw[Zp _ _ e];exact h
  . exact fun f s n b lo hi _ h=>⟨n,b,lo,hi,h,.inr ⟨rfl,rfl,rfl,rfl⟩⟩
  . exact fun b i hb hm h=>hm h
 refine⟨X,S.step f0 s0 _ hf X (fun f s e=>Zp _ _ e) (by simp[Env.newMap,Q0]) (fun f s e=>rfl) ?_ ?_ ?_ ?_ ?_ ?_⟩
 . intro n x h;have:=S.reg_none hn;simp only[Env.newMap] at h;rw[this] at h;cases h
 . intro f s o b e ho hb;exact⟨K4 E _ d b (S.blk_lt ho hb),fun i h=>h⟩
 . exact fun b i h=>S.fmod b i h
 . intro b i h;simp only[Env.newMap,Env.push,Zfd] at h⊢;exact Zfe (S.modsz b i h)
 . exact⟨E.w.heap.size,#[],Q0 _ _ _ _,S.bsz,Kw E _ d,rfl,rfl⟩
 . intro f s o b e ho hb h;simp only[blk,Env.newMap,Q0,Zic] at h;have:=S.blk_lt ho hb;omega
def Env.newRow(E:Env)(c:List Value)(T:TypeId)(fr:Nat×Nat)(d:Nat):Env:=
 {w:=E.push (.cells ⟨c⟩ T fr) d,mu:=E.mu,reg:=E.reg,mod:=E.mod,tab:=E.tab}
theorem Sim.newRow(S:Sim B F H E)(c:List Value)(T:TypeId)(fr:Nat×Nat)(d:Nat):
 Ext H.length B E (E.newRow c T fr d)/\Sim B F H (E.newRow c T fr d)/\Row (E.newRow c T fr d) E.w.heap.size 0 c:=by
 have X:Ext H.length B E (E.newRow c T fr d):=by
  refine B5 S.bsz _ d _ _ _ ?_ ?_ ?_
  . exact fun f s b h=>h
  . exact fun f s n b lo hi _ h=>⟨n,b,lo,hi,h,.inr ⟨rfl,rfl,rfl,rfl⟩⟩
  . exact fun b i hb hm h=>hm h
 refine⟨X,⟨S.dom,Ze9 S.bsz X.size,S.fb,S.fmod,?_,?_,S.nreg,?_⟩,?_⟩
 . intro b i h;exact Zfa (S.modsz b i h) X.size
 . intro f s o ho;exact(S.obj f s o ho).mono X S.lt rfl rfl (fun b hb=>⟨K4 E _ d b (S.blk_lt ho hb),fun i h=>h⟩)
 . intro f s o f' s' o' b h1 h2 h3 h4;refine S.inj f s o f' s' o' b h1 h2 ?_ ?_
   . cases o<;>exact h3
   . cases o' <;>exact h4
 . intro i v h;refine⟨?_,fun hm=>?_⟩
   . have hp:=Kw E (.cells ⟨c⟩ T fr) d;simp only[Zff,Env.newRow,World.cell?,hp];simpa using h
   . exact Zfg _ (S.modsz _ _ hm)
theorem Qg7(w:World)(g:Nat)(c:Array Value):(w.setRow g c).heap.size=w.heap.size:=by simp[World.setRow]
def Env.setRow(E:Env)(b:Nat)(c:List Value):Env:={E with w:=E.w.setRow b ⟨c⟩}
theorem Qjo{k:Nat}{b:Nat}{c0:Array Value}{T:TypeId}{fr:Nat×Nat}(hb:E.w.heap[b]?=some (.cells c0 T fr))(hBb:B<=b)(c:List Value)(hc:c.length=c0.size)
 (hsame:∀i,¬E.mod b i->c[i]?=c0[i]?):Ext k B E (E.setRow b c) where
 size:=by simp[Env.setRow]
 shape:=fun b' T' n h=>by
  by_cases e:b' =b
  . subst e;have hs:=setRow_heap E.w b' c0 ⟨c⟩ T fr hb;simp only[World.shape?,hb,Zic,Prod.mk.injEq] at h;simp only[Env.setRow,World.shape?,hs,Zic,Prod.mk.injEq];exact⟨h.1,by simpa [hc] using h.2⟩
  . simp only[Env.setRow];rw[Kr (setRow_other E.w b b' ⟨c⟩ e)];exact h
 cell:=fun b' i v hm h=>by
  by_cases e:b' =b
  . subst e;have hs:=setRow_heap E.w b' c0 ⟨c⟩ T fr hb;simp only[World.cell?,hb] at h;simp only[Env.setRow,World.cell?,hs];have:=hsame i hm;simp at h⊢;rw[this];exact h
  . simp only[Env.setRow];rw[K5 (setRow_other E.w b b' ⟨c⟩ e)];exact h
 mod:=fun b' i v h hm=>hm
 mu:=fun f s b' _ h=>h
 reg:=fun f s n b' lo hi _ hs h=>⟨n,b',lo,hi,h,.inr ⟨rfl,rfl,rfl,rfl⟩⟩
 old:=fun b' hb' =>by simp only[Env.setRow];exact setRow_other E.w b b' ⟨c⟩ (by omega)
 rest:=⟨rfl,rfl,rfl⟩
 tab:=rfl
 dfr:=fun b' h=>by simp only[Env.setRow];rw[setRow_other E.w b b' ⟨c⟩ (by rintro rfl;rw[hb] at h;cases h)];exact h
theorem Sim.setCells(S:Sim B F H E){f0 s0:Nat}{xs0:List V}(ho:Qd H f0 s0=some (.cells xs0)){b:Nat}{c0:Array Value}{T:TypeId}{vs0 rest:List Value}
 (hmu:E.mu f0 s0=some b)(hb:E.w.heap[b]?=some (.cells c0 T (0,0)))(hc0:c0.toList=vs0++rest)(hmod:∀i,E.mod b i)(hBb:B<=b)
 (xs:List V)(vs:List Value)(hr:Qr E xs vs)(hx:xs.all V.scalar=true)(hl:vs.length=vs0.length):
 Ext H.length B E (E.setRow b (vs++rest))/\Sim B F (Qs H f0 s0 (.cells xs)) (E.setRow b (vs++rest)):=by
 have hlen:(vs++rest).length=c0.size:=by
  have:c0.toList.length=(vs0++rest).length:=by rw[hc0]
  simp at this⊢;omega
 have X:Ext H.length B E (E.setRow b (vs++rest)):=Qjo hb hBb _ hlen (fun i h=>absurd (hmod i) h);have hblk:blk E f0 s0 (.cells xs0)=some b:=hmu;refine⟨X,S.step f0 s0 _ (Q9 ho) X (fun f s e=>rfl) (by simp[Env.setRow,hmu]) (fun f s e=>rfl) ?_ ?_ ?_ ?_ ?_ ?_⟩
 . intro n x h;obtain⟨_,q1,q2⟩:=S.nreg f0 s0 n x h;rw[ho] at q1;cases q1;cases q2
 . intro f s o b' e ho' hb';refine⟨?_,fun i h=>h⟩;have hne:b' ≠b:=fun e' =>e (S.inj f s o f0 s0 _ b' ho' ho hb' (e' ▸hblk));simp only[Env.setRow];exact setRow_other E.w b b' _ hne
 . exact fun b i h=>S.fmod b i h
 . intro b' i h;simp only[Env.setRow,Qg7];exact S.modsz b' i h
 . exact⟨b,⟨vs++rest⟩,T,vs,rest,hmu,hBb,setRow_heap E.w b c0 _ T (0,0) hb,rfl,Qr.mono X S.lt _ _ hr,hmod,hx⟩
 . intro f s o b' e ho' hb' h;simp only[blk,Env.setRow,hmu,Zic] at h;subst h;exact e (S.inj f s o f0 s0 _ b ho' ho hb' hblk)
def Env.newTok(E:Env)(f0 s0 n lo hi:Nat)(c:List Value)(T:TypeId)(d:Nat)(z:Nat×Nat:=(0,0)):Env:=
 {w:=E.push (.cells ⟨c⟩ T z) d,mu:=upd E.mu f0 s0 (some E.w.heap.size),reg:=upd E.reg f0 s0 (some (n,E.w.heap.size,lo,hi)),
  mod:=fun b i=>E.mod b i\/(b=E.w.heap.size/\lo<=i/\i<hi),tab:=E.tab}
theorem Sim.newTok(S:Sim B F H E){f0 s0:Nat}(hf:f0<H.length)(hn:Qd H f0 s0=none)(n lo hi:Nat)(c:List Value)(T:TypeId)(d:Nat)(hhi:hi<=c.length)(z:Nat×Nat:=(0,0))(hz:z=(0,0)\/hi<=z.1:=by exact .inl rfl):
 Ext H.length B E (E.newTok f0 s0 n lo hi c T d z)/\Sim B F (Qs H f0 s0 (.grow n)) (E.newTok f0 s0 n lo hi c T d z)/\Row (E.newTok f0 s0 n lo hi c T d z) E.w.heap.size 0 (c.take lo):=by
 have hmn:=S.mu_none hn;have hrn:=S.reg_none hn;have X:Ext H.length B E (E.newTok f0 s0 n lo hi c T d z):=by
  refine B5 S.bsz _ d _ _ _ ?_ ?_ ?_
  . intro f s b h;by_cases e:f=f0/\s=s0
    . rw[e.1,e.2,hmn] at h;cases h
    . rw[Zp _ _ e];exact h
  . intro f s n b lo hi hs h;by_cases e:f=f0/\s=s0
    . rw[e.1,e.2,hmn] at hs;cases hs
    . rw[Zp _ _ e] at h;exact⟨n,b,lo,hi,h,.inr ⟨rfl,rfl,rfl,rfl⟩⟩
  . intro b i hb hm h;rcases h with h|h
    . exact hm h
    . omega
 refine⟨X,S.step f0 s0 _ hf X (fun f s e=>Zp _ _ e) (by simp[Env.newTok,Q0]) (fun f s e=>Zp _ _ e) ?_ ?_ ?_ ?_ ?_ ?_,?_⟩
 . intro n' x h;simp only[Env.newTok,Q0,Zic,Prod.mk.injEq] at h;rw[h.1];rfl
 . intro f s o b e ho hb;exact⟨K4 E _ d b (S.blk_lt ho hb),fun i h=> .inl h⟩
 . exact fun b i h=> .inl (S.fmod b i h)
 . intro b i h;simp only[Env.newTok,Env.push,Zfd] at h⊢;rcases h with h|h
   . exact Zfe (S.modsz b i h)
   . omega
 . exact⟨E.w.heap.size,lo,hi,⟨c⟩,T,z,Q0 _ _ _ _,S.bsz,Kw E _ d,by simpa using hhi,fun i h1 h2=> .inr ⟨rfl,h1,h2⟩,hz⟩
 . intro f s o b e ho hb h;simp only[blk,Env.newTok,Q0,Ze4,Zic] at h;have:=S.blk_lt ho hb;omega
 . intro i v h;rw[Zfh] at h;split at h
   . rename_i hi';refine⟨?_,fun hm=>?_⟩
     . have hp:=Kw E (.cells ⟨c⟩ T z) d;simp only[Zff,Env.newTok,World.cell?,hp];simpa using h
     . simp only[Env.newTok,Zff] at hm;rcases hm with hm|hm
       . exact Zfg _ (S.modsz _ _ hm)
       . omega
   . cases h
def Env.moveTok(E:Env)(f0 s0 n lo hi:Nat)(c:List Value)(T:TypeId)(d:Nat):Env:=
 {w:=E.push (.cells ⟨c⟩ T) d,mu:=E.mu,reg:=upd E.reg f0 s0 (some (n,E.w.heap.size,lo,hi)),
  mod:=fun b i=>E.mod b i\/(b=E.w.heap.size/\lo<=i/\i<hi),tab:=E.tab}
theorem Sim.moveTok(S:Sim B F H E){f0 s0 n0 b0 lo0 hi0:Nat}(ho:Qd H f0 s0=some (.grow n0))(hr:E.reg f0 s0=some (n0,b0,lo0,hi0))(n lo hi:Nat)(hnn:n0<n)(c:List Value)(T:TypeId)(d:Nat)(hhi:hi<=c.length):
 Ext H.length B E (E.moveTok f0 s0 n lo hi c T d)/\Sim B F (Qs H f0 s0 (.grow n)) (E.moveTok f0 s0 n lo hi c T d)/\Row (E.moveTok f0 s0 n lo hi c T d) E.w.heap.size 0 (c.take lo):=by
 have X:Ext H.length B E (E.moveTok f0 s0 n lo hi c T d):=by
  refine B5 S.bsz _ d _ _ _ ?_ ?_ ?_
  . exact fun f s b h=>h
  . intro f s n' b lo' hi' hs h;by_cases e:f=f0/\s=s0
    . obtain⟨rfl,rfl⟩:=e;simp only[Q0,Zic,Prod.mk.injEq] at h;exact⟨n0,b0,lo0,hi0,hr,.inl (by omega)⟩
    . rw[Zp _ _ e] at h;exact⟨n',b,lo',hi',h,.inr ⟨rfl,rfl,rfl,rfl⟩⟩
  . intro b i hb hm h;rcases h with h|h
    . exact hm h
    . omega
 have hsome:(E.mu f0 s0).isSome=true:=by rw[<-S.dom,ho];rfl
 refine⟨X,S.step f0 s0 _ (Q9 ho) X (fun f s e=>rfl) hsome (fun f s e=>Zp _ _ e) ?_ ?_ ?_ ?_ ?_ ?_,?_⟩
 . intro n' x h;simp only[Env.moveTok,Q0,Zic,Prod.mk.injEq] at h;rw[h.1];rfl
 . intro f s o b e ho hb;exact⟨K4 E _ d b (S.blk_lt ho hb),fun i h=> .inl h⟩
 . exact fun b i h=> .inl (S.fmod b i h)
 . intro b i h;simp only[Env.moveTok,Env.push,Zfd] at h⊢;rcases h with h|h
   . exact Zfe (S.modsz b i h)
   . omega
 . exact⟨E.w.heap.size,lo,hi,⟨c⟩,T,(0,0),Q0 _ _ _ _,S.bsz,Kw E _ d,by simpa using hhi,fun i h1 h2=> .inr ⟨rfl,h1,h2⟩,.inl rfl⟩
 . intro f s o b e ho hb h;simp only[blk,Env.moveTok,Q0,Ze4,Zic] at h;have:=S.blk_lt ho hb;omega
 . intro i v h;rw[Zfh] at h;split at h
   . rename_i hi';refine⟨?_,fun hm=>?_⟩
     . have hp:=Kw E (.cells ⟨c⟩ T) d;simp only[Zff,Env.moveTok,World.cell?,hp];simpa using h
     . simp only[Env.moveTok,Zff] at hm;rcases hm with hm|hm
       . exact Zfg _ (S.modsz _ _ hm)
       . omega
   . cases h
def Env.growTok(E:Env)(f0 s0 n b lo lo' hi:Nat)(c:List Value):Env:=
 {w:=E.w.setRow b ⟨c⟩,mu:=E.mu,reg:=upd E.reg f0 s0 (some (n,b,lo',hi)),mod:=fun b' i=>E.mod b' i/\¬(b' =b/\lo<=i/\i<lo'),tab:=E.tab}
theorem Sim.growTok(S:Sim B F H E){f0 s0 n0 b lo hi:Nat}(ho:Qd H f0 s0=some (.grow n0))(hr:E.reg f0 s0=some (n0,b,lo,hi)){c0:Array Value}{T:TypeId}{z:Nat×Nat}(hb:E.w.heap[b]?=some (.cells c0 T z))
 (n lo' :Nat)(hnn:n0<n)(hlo:lo<=lo')(hlo' :lo' <=hi)(c:List Value)(hc:c.length=c0.size)
 (hsame:∀i,¬(lo<=i/\i<lo')->c[i]?=c0[i]?):
 Ext H.length B E (E.growTok f0 s0 n b lo lo' hi c)/\Sim B F (Qs H f0 s0 (.grow n)) (E.growTok f0 s0 n b lo lo' hi c):=by
 obtain⟨b1,lo1,hi1,c1,T1,z1,g1,g2,g3,g4,g5,g6⟩:=S.obj f0 s0 _ ho;rw[hr] at g1;simp only[Zic,Prod.mk.injEq,true_and] at g1;obtain⟨rfl,rfl,rfl⟩:=g1;rw[hb] at g3;simp only[Zic,Obj.cells.injEq,and_true] at g3;obtain⟨rfl,rfl,rfl⟩:=g3;have hblk:blk E f0 s0 (.grow n0)=some b:=by simp[blk,hr]
 have X0:Ext H.length B E (E.setRow b c):=Qjo hb g2 c hc (fun i hm=>hsame i (fun h=>hm (g5 i h.1 (by omega))));have X:Ext H.length B E (E.growTok f0 s0 n b lo lo' hi c):=by
  refine⟨X0.size,X0.shape,X0.cell,fun b' i v h hm h' =>hm h'.1,X0.mu,?_,X0.old,X0.rest,X0.tab,X0.dfr⟩;intro f s n' b' lo2 hi2 hf hs h;by_cases e:f=f0/\s=s0
  . obtain⟨rfl,rfl⟩:=e;simp only[Env.growTok,Q0,Zic,Prod.mk.injEq] at h;exact⟨n0,b,lo,hi,hr,.inl (by omega)⟩
  . simp only[Env.growTok] at h;rw[Zp _ _ e] at h;exact⟨n',b',lo2,hi2,h,.inr ⟨rfl,rfl,rfl,rfl⟩⟩
 have hsome:(E.mu f0 s0).isSome=true:=by rw[<-S.dom,ho];rfl
 have hne:∀f s o b',¬(f=f0/\s=s0)->Qd H f s=some o->blk E f s o=some b' ->b' ≠b:=
  fun f s o b' e ho' hb' e' =>e (S.inj f s o f0 s0 _ b' ho' ho hb' (e' ▸hblk))
 refine⟨X,S.step f0 s0 _ (Q9 ho) X (fun f s e=>rfl) hsome (fun f s e=>Zp _ _ e) ?_ ?_ ?_ ?_ ?_ ?_⟩
 . intro n' x h;simp only[Env.growTok,Q0,Zic,Prod.mk.injEq] at h;rw[h.1];rfl
 . intro f s o b' e ho' hb';have:=hne f s o b' e ho' hb';refine⟨?_,fun i h=>⟨h,fun h' =>this h'.1⟩⟩;simp only[Env.growTok];exact setRow_other E.w b b' _ this
 . exact fun b' i h=>⟨S.fmod b' i h,fun h' =>by have:=S.fb b' i h;omega⟩
 . intro b' i h;simp only[Env.growTok,Qg7];exact S.modsz b' i h.1
 . refine⟨b,lo',hi,⟨c⟩,T,z,Q0 _ _ _ _,g2,setRow_heap E.w b c0 _ T z hb,?_,fun i h1 h2=>⟨g5 i (by omega) h2,fun h=>by omega⟩,g6⟩;simp[hc];exact g4
 . intro f s o b' e ho' hb' h;simp only[blk,Env.growTok,Q0,Ze4,Zic] at h;exact hne f s o b' e ho' hb' h.symm
def Env.newMg(E:Env)(f0 s0 n lo hi:Nat)(c:List Value)(T:TypeId)(d:Nat):Env:=
 {w:=E.push (.cells ⟨c⟩ T) d,mu:=upd E.mu f0 s0 (some E.w.heap.size),reg:=upd E.reg f0 s0 (some (n,E.w.heap.size,lo,hi)),
  mod:=fun b i=>E.mod b i\/b=E.w.heap.size,tab:=E.tab}
theorem Sim.newMg(S:Sim B F H E){f0 s0:Nat}(hf:f0<H.length)(hn:Qd H f0 s0=none)(n lo hi:Nat)(xs:List V)(vs rest:List Value)(T:TypeId)(d:Nat)(hhi:hi<=(vs++rest).length)
 (hr:Qr E xs vs)(hx:xs.all V.scalar=true):
 Ext H.length B E (E.newMg f0 s0 n lo hi (vs++rest) T d)/\Sim B F (Qs H f0 s0 (.mgrow xs n)) (E.newMg f0 s0 n lo hi (vs++rest) T d):=by
 have hmn:=S.mu_none hn;have X:Ext H.length B E (E.newMg f0 s0 n lo hi (vs++rest) T d):=by
  refine B5 S.bsz _ d _ _ _ ?_ ?_ ?_
  . intro f s b h;by_cases e:f=f0/\s=s0
    . rw[e.1,e.2,hmn] at h;cases h
    . rw[Zp _ _ e];exact h
  . intro f s n b lo hi hs h;by_cases e:f=f0/\s=s0
    . rw[e.1,e.2,hmn] at hs;cases hs
    . rw[Zp _ _ e] at h;exact⟨n,b,lo,hi,h,.inr ⟨rfl,rfl,rfl,rfl⟩⟩
  . intro b i hb hm h;rcases h with h|h
    . exact hm h
    . omega
 refine⟨X,S.step f0 s0 _ hf X (fun f s e=>Zp _ _ e) (by simp[Env.newMg,Q0]) (fun f s e=>Zp _ _ e) ?_ ?_ ?_ ?_ ?_ ?_⟩
 . intro n' x h;simp only[Env.newMg,Q0,Zic,Prod.mk.injEq] at h;rw[h.1];rfl
 . intro f s o b e ho hb;exact⟨K4 E _ d b (S.blk_lt ho hb),fun i h=> .inl h⟩
 . exact fun b i h=> .inl (S.fmod b i h)
 . intro b i h;simp only[Env.newMg,Env.push,Zfd] at h⊢;rcases h with h|h
   . exact Zfe (S.modsz b i h)
   . omega
 . exact⟨E.w.heap.size,lo,hi,⟨vs++rest⟩,T,vs,rest,Q0 _ _ _ _,S.bsz,Kw E _ d,by simpa using hhi,rfl,Qr.mono X S.lt _ _ hr,fun i=> .inr rfl,hx⟩
 . intro f s o b e ho hb h;simp only[blk,Env.newMg,Q0,Ze4,Zic] at h;have:=S.blk_lt ho hb;omega
def Env.moveMg(E:Env)(f0 s0 n lo hi:Nat)(c:List Value)(T:TypeId)(d:Nat):Env:=
 {w:=E.push (.cells ⟨c⟩ T) d,mu:=E.mu,reg:=upd E.reg f0 s0 (some (n,E.w.heap.size,lo,hi)),
  mod:=fun b i=>E.mod b i\/b=E.w.heap.size,tab:=E.tab}
theorem Sim.moveMg(S:Sim B F H E){f0 s0 n0 b0 lo0 hi0:Nat}{xs0:List V}(ho:Qd H f0 s0=some (.mgrow xs0 n0))(hr0:E.reg f0 s0=some (n0,b0,lo0,hi0))(n lo hi:Nat)(hnn:n0<n)
 (xs:List V)(vs rest:List Value)(T:TypeId)(d:Nat)(hhi:hi<=(vs++rest).length)(hr:Qr E xs vs)(hx:xs.all V.scalar=true):
 Ext H.length B E (E.moveMg f0 s0 n lo hi (vs++rest) T d)/\Sim B F (Qs H f0 s0 (.mgrow xs n)) (E.moveMg f0 s0 n lo hi (vs++rest) T d):=by
 have X:Ext H.length B E (E.moveMg f0 s0 n lo hi (vs++rest) T d):=by
  refine B5 S.bsz _ d _ _ _ ?_ ?_ ?_
  . exact fun f s b h=>h
  . intro f s n' b lo' hi' hs h;by_cases e:f=f0/\s=s0
    . obtain⟨rfl,rfl⟩:=e;simp only[Q0,Zic,Prod.mk.injEq] at h;exact⟨n0,b0,lo0,hi0,hr0,.inl (by omega)⟩
    . rw[Zp _ _ e] at h;exact⟨n',b,lo',hi',h,.inr ⟨rfl,rfl,rfl,rfl⟩⟩
  . intro b i hb hm h;rcases h with h|h
    . exact hm h
    . omega
 have hsome:(E.mu f0 s0).isSome=true:=by rw[<-S.dom,ho];rfl
 refine⟨X,S.step f0 s0 _ (Q9 ho) X (fun f s e=>rfl) hsome (fun f s e=>Zp _ _ e) ?_ ?_ ?_ ?_ ?_ ?_⟩
 . intro n' x h;simp only[Env.moveMg,Q0,Zic,Prod.mk.injEq] at h;rw[h.1];rfl
 . intro f s o b e ho hb;exact⟨K4 E _ d b (S.blk_lt ho hb),fun i h=> .inl h⟩
 . exact fun b i h=> .inl (S.fmod b i h)
 . intro b i h;simp only[Env.moveMg,Env.push,Zfd] at h⊢;rcases h with h|h
   . exact Zfe (S.modsz b i h)
   . omega
 . exact⟨E.w.heap.size,lo,hi,⟨vs++rest⟩,T,vs,rest,Q0 _ _ _ _,S.bsz,Kw E _ d,by simpa using hhi,rfl,Qr.mono X S.lt _ _ hr,fun i=> .inr rfl,hx⟩
 . intro f s o b e ho hb h;simp only[blk,Env.moveMg,Q0,Ze4,Zic] at h;have:=S.blk_lt ho hb;omega
def Env.setMg(E:Env)(f0 s0 n b lo hi:Nat)(c:List Value):Env:=
 {w:=E.w.setRow b ⟨c⟩,mu:=E.mu,reg:=upd E.reg f0 s0 (some (n,b,lo,hi)),mod:=E.mod,tab:=E.tab}
theorem Sim.setMg(S:Sim B F H E){f0 s0 n0 b lo0 hi:Nat}{xs0:List V}(ho:Qd H f0 s0=some (.mgrow xs0 n0))(hr0:E.reg f0 s0=some (n0,b,lo0,hi)){c0:Array Value}{T:TypeId}{z:Nat×Nat}(hb:E.w.heap[b]?=some (.cells c0 T z))
 (n lo:Nat)(hnn:n0<n\/(n=n0/\lo=lo0))(xs:List V)(vs rest:List Value)(hc:(vs++rest).length=c0.size)(hr:Qr E xs vs)(hx:xs.all V.scalar=true):
 Ext H.length B E (E.setMg f0 s0 n b lo hi (vs++rest))/\Sim B F (Qs H f0 s0 (.mgrow xs n)) (E.setMg f0 s0 n b lo hi (vs++rest)):=by
 obtain⟨b1,lo1,hi1,c1,T1,vs1,rest1,g1,g2,g3,g4,g5,g6,g7,g8⟩:=S.obj f0 s0 _ ho;rw[hr0] at g1;simp only[Zic,Prod.mk.injEq,true_and] at g1;obtain⟨rfl,rfl,rfl⟩:=g1;rw[hb] at g3;simp only[Zic,Obj.cells.injEq] at g3;obtain⟨rfl,rfl,rfl⟩:=g3;have hblk:blk E f0 s0 (.mgrow xs0 n0)=some b:=by simp[blk,hr0]
 have X0:Ext H.length B E (E.setRow b (vs++rest)):=Qjo hb g2 _ hc (fun i hm=>absurd (g7 i) hm);have X:Ext H.length B E (E.setMg f0 s0 n b lo hi (vs++rest)):=by
  refine⟨X0.size,X0.shape,X0.cell,fun b' i v h hm h' =>hm h',X0.mu,?_,X0.old,X0.rest,X0.tab,X0.dfr⟩;intro f s n' b' lo2 hi2 hf hs h;by_cases e:f=f0/\s=s0
  . obtain⟨rfl,rfl⟩:=e;simp only[Env.setMg,Q0,Zic,Prod.mk.injEq] at h;refine⟨n0,b,lo0,hi,hr0,?_⟩;rcases hnn with hnn|⟨h1,h2⟩
    . exact .inl (by omega)
    . exact .inr ⟨by omega,h.2.1.symm,by omega,h.2.2.2.symm⟩
  . simp only[Env.setMg] at h;rw[Zp _ _ e] at h;exact⟨n',b',lo2,hi2,h,.inr ⟨rfl,rfl,rfl,rfl⟩⟩
 have hsome:(E.mu f0 s0).isSome=true:=by rw[<-S.dom,ho];rfl
 have hne:∀f s o b',¬(f=f0/\s=s0)->Qd H f s=some o->blk E f s o=some b' ->b' ≠b:=
  fun f s o b' e ho' hb' e' =>e (S.inj f s o f0 s0 _ b' ho' ho hb' (e' ▸hblk))
 refine⟨X,S.step f0 s0 _ (Q9 ho) X (fun f s e=>rfl) hsome (fun f s e=>Zp _ _ e) ?_ ?_ ?_ ?_ ?_ ?_⟩
 . intro n' x h;simp only[Env.setMg,Q0,Zic,Prod.mk.injEq] at h;rw[h.1];rfl
 . intro f s o b' e ho' hb';have:=hne f s o b' e ho' hb';refine⟨?_,fun i h=>h⟩;simp only[Env.setMg];exact setRow_other E.w b b' _ this
 . exact fun b' i h=>S.fmod b' i h
 . intro b' i h;simp only[Env.setMg,Qg7];exact S.modsz b' i h
 . refine⟨b,lo,hi,⟨vs++rest⟩,T,vs,rest,Q0 _ _ _ _,g2,setRow_heap E.w b c0 _ T (0,0) hb,?_,rfl,Qr.mono X S.lt _ _ hr,g7,hx⟩;have:(vs++rest).length=c0.size:=hc;simp only[List.size_toArray];omega
 . intro f s o b' e ho' hb' h;simp only[blk,Env.setMg,Q0,Ze4,Zic] at h;exact hne f s o b' e ho' hb' h.symm
end
end Go.AM
end
