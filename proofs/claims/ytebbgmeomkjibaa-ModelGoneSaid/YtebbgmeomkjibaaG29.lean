/- This file holds in one the texts Am45, Am46, Am47, Am48, PM; each says at its head what it proves. -/
import Derived.Test.YtebbgmeomkjibaaG22
import Derived.Test.YtebbgmeomkjibaaG23
import Derived.Test.YtebbgmeomkjibaaG28
set_option linter.unusedSimpArgs false
set_option linter.unusedVariables false
section
/- The abstract machine, part 45: heaps by what they hold: changes. -/
namespace Go.AM

def lk (f s : Nat) : List (Nat × Nat × O) → Option O → Option O
  | [], d => d
  | w :: l, d => if f = w.1 ∧ s = w.2.1 then some w.2.2 else lk f s l d
structure Ch (H H' : Heap) (l : List (Nat × Nat × O)) : Prop where
  len : H.length ≤ H'.length
  get : ∀ f s, f < H.length → hget H' f s = lk f s l (hget H f s)

theorem Ch.refl (H : Heap) : Ch H H [] := ⟨Nat.le_refl _, fun _ _ _ => rfl⟩
theorem lk_app (f s : Nat) (l m : List (Nat × Nat × O)) (d : Option O) : lk f s (l ++ m) d = lk f s l (lk f s m d) := by
  induction l with
  | nil => rfl
  | cons w l ih => simp only [List.cons_append, lk, ih]
theorem Ch.trans {H H1 H2 : Heap} {l m : List (Nat × Nat × O)} (a : Ch H H1 l) (b : Ch H1 H2 m) : Ch H H2 (m ++ l) :=
  ⟨Nat.le_trans a.len b.len, fun f s h => by rw [b.get f s (Nat.lt_of_lt_of_le h a.len), a.get f s h, lk_app]⟩
theorem Ch.other {H H' : Heap} {l : List (Nat × Nat × O)} (a : Ch H H' l) {f s : Nat} {o : Option O} (h : hget H f s = o) (hf : f < H.length) (hn : ∀ w ∈ l, ¬ (f = w.1 ∧ s = w.2.1)) : hget H' f s = o := by
  rw [a.get f s hf, ← h]
  clear a h
  induction l with
  | nil => rfl
  | cons w l ih => simp only [lk]; rw [if_neg (hn w (by simp))]; exact ih fun w hw => hn w (List.mem_cons_of_mem _ hw)

theorem map_cells_ne {H : Heap} {f s f' s' : Nat} {xs : List V} {es : List (V × V)} {bs : List Nat} {clk : Nat} (h : hget H f s = some (.cells xs)) (h' : hget H f' s' = some (.map es bs clk)) : ¬ (f = f' ∧ s = s') := by
  rintro ⟨rfl, rfl⟩; rw [h] at h'; cases h'
theorem map_cells_ne' {H : Heap} {f s f' s' : Nat} {xs : List V} {es : List (V × V)} {bs : List Nat} {clk : Nat} (h : hget H f s = some (.cells xs)) (h' : hget H f' s' = some (.map es bs clk)) : ¬ (f' = f ∧ s' = s) := by
  rintro ⟨rfl, rfl⟩; rw [h] at h'; cases h'
section
variable {P : Program} {g : Get}
theorem ia_arr {t e : TypeId} {k q : Nat} (hu : P.underlying t = some (.array k e)) (hs : sz P e = some q) {kk : IntKind} {f s o : Nat} {i : Int} : indexAddrV P t (.ptr f s o) (.int kk i) = if 0 ≤ i ∧ i < k then some (.ptr f s (o + i.toNat * q)) else none := by
  simp only [indexAddrV, hu, hs]

theorem update_new {t kt e : TypeId} {kd : TypeDesc} (hu : P.underlying t = some (.map kt e)) (hk : P.underlying kt = some kd) {f s : Nat} {es : List (V × V)} {bs : List Nat} {clk : Nat} (hg : g f s = some (.map es bs clk))
    {k x : V} (hp : plainKey kd k = true) (hf : findKey k es 0 = some none) : updateV P g t (.map f s) k x = some (.val .bad (some (f, s, .map (es ++ [(k, x)]) (bs ++ [clk]) (clk + 1)))) := by
  simp only [updateV, hu, hk, hp, if_true, hg, hf]
end
end Go.AM
namespace Go.AM
theorem Fresh.ch {H K K' : Heap} {n : Nat} {v : V} {l : List (Nat × Nat × O)} (F : Fresh H n K) (hn : n = H.length) (hl : K'.length = K.length) (hg : ∀ f s, f < n → hget K' f s = lk f s l (hget K f s)) : Ch H (popF n v K') l := by
  subst hn
  have := F.len
  refine ⟨popF_len (by omega), fun f s h => ?_⟩
  rw [popF_get h, hg f s h, F.low f s h]
theorem Fresh.ch' {H K K' : Heap} {n : Nat} {v : V} {l : List (Nat × Nat × O)} (F : Fresh H n K) (hn : n = H.length) (hl : K.length ≤ K'.length) (hg : ∀ f s, f < n → hget K' f s = lk f s l (hget K f s)) : Ch H (popF n v K') l := by
  subst hn
  have := F.len
  refine ⟨popF_len (by omega), fun f s h => ?_⟩
  rw [popF_get h, hg f s h, F.low f s h]
structure At (H : Heap) (n : Nat) (K : Heap) (f s : Nat) (o : O) : Prop where
  lt : f < n
  ltK : f < K.length
  ne : ¬ f = n
  get : hget K f s = some o
theorem Fresh.at_ {H K : Heap} {n f s : Nat} {o : O} (F : Fresh H n K) (hn : n = H.length) (h : hget H f s = some o) : At H n K f s o := by
  have h1 := hget_lt h
  have h2 := F.len
  exact ⟨by omega, by omega, by omega, (F.low f s (by omega)).trans h⟩
theorem res_cell {P : Program} {F : Func} {t : List V} {H : Heap} {a : Nat} {T : TypeId} {f s o : Nat} {xs : List V} {v : V} (hF : F.results = #[.cell a T]) (ht : t.getD a .bad = .ptr f s o) (hx : hget H f s = some (.cells xs)) (hr : readAt P T xs o = some v) : resV P F t H = some v := by
  simp only [resV, hF, resL, resOne, ht, hx, hr]
theorem un_not' {b : Bool} : unV .not (.bool b) = some (.bool !b) := rfl

theorem Ch.lt {K H1 : Heap} {w : List (Nat × Nat × O)} {f : Nat} (c : Ch K H1 w) (h : f < K.length) : f < H1.length := Nat.lt_of_lt_of_le h c.len
theorem lk_low {f s : Nat} {w : List (Nat × Nat × O)} {d : Option O} (h : ∀ x ∈ w, x.1 < f) : lk f s w d = d := by
  induction w with
  | nil => rfl
  | cons x w ih =>
    simp only [lk]
    rw [if_neg (fun e => by have := h x (by simp); omega)]
    exact ih fun y hy => h y (List.mem_cons_of_mem _ hy)
theorem Ch.own {K H1 : Heap} {w : List (Nat × Nat × O)} {f s : Nat} (c : Ch K H1 w) (h : f < K.length) (hw : ∀ x ∈ w, x.1 < f) : hget H1 f s = hget K f s := by
  rw [c.get f s h, lk_low hw]

section
variable {P : Program} {pol : Pol} {C : Call} {L : MBody → Body} {fn fr : Nat} {t : List V} {H : Heap} {d : Option Nat} {k k' : List It} {Q : Ex → List V → Heap → Prop}
theorem W.callT {f : FuncId} {args : List V} {R : V → Heap → Prop} (h : CR P pol f args H R) (hp : pol.prim f = none) (hq : pol.pure fn f = false) (ht : pol.thin fn f = false) (hl : pol.lift fn f = false) (hk : pol.look fn f = false)
    (h2 : ∀ v H', R v H' → W (U P pol C L fn fr k .normal (putT t d v) H') Q) : W (UCT P pol C L fn fr (callOp pol (callW P pol) fn fr d f args H) d k t) Q := by
  obtain ⟨r, H', h3, v, rfl, h4⟩ := h
  rw [callOp_in hp hq ht h3 hl hk]
  exact h2 v H' h4
theorem W.pcallT {f : FuncId} {args args' : List V} {R : V → Prop} (h : Fz P pol f args' R) (hp : pol.prim f = none) (hq : pol.pure fn f = true) (ha : frzL (frz (fun _ _ => none) depth) args = some args')
    (h2 : ∀ v, R v → W (U P pol C L fn fr k .normal (putT t d v) H) Q) : W (UCT P pol C L fn fr (callOp pol (callW P pol) fn fr d f args H) d k t) Q := by
  obtain ⟨v, h3, h4⟩ := h.op' hp ha
  rw [h4 fn fr d H hq]
  exact h2 v h3
def Look (P : Program) (pol : Pol) (f : FuncId) (args : List V) (R : V → Prop) : Prop := ∃ v H' v', callW P pol f args [] = some (.ret v, H') ∧ frzN (hget H') depth v = some v' ∧ R v'
theorem Look.of_cr {f : FuncId} {args : List V} {R : V → Prop} (h : CR P pol f args [] fun v H' => ∃ v', frzN (hget H') depth v = some v' ∧ R v') : Look P pol f args R := by
  obtain ⟨r, H', h1, v, rfl, v', h2, h3⟩ := h; exact ⟨v, H', v', h1, h2, h3⟩
theorem Fz.of_cr {f : FuncId} {args : List V} {R : V → Prop} (h : CR P pol f args [] fun v H' => ∃ v', frz (hget H') depth v = some v' ∧ R v') : Fz P pol f args R := by
  obtain ⟨r, H', h1, v, rfl, v', h2, h3⟩ := h; exact ⟨v, H', v', h1, h2, h3⟩
theorem callOp_look {f : FuncId} {args args' : List V} {R : V → Prop} (h : Look P pol f args' R) (hp : pol.prim f = none) (hq : pol.pure fn f = false) (hl : pol.lift fn f = false) (hk : pol.look fn f = true) (ha : frzL (frz (hget H) depth) args = some args') :
    ∃ v, R v ∧ callOp pol (callW P pol) fn fr d f args H = some (.ret v, H) := by
  obtain ⟨v, H', v', h1, h2, h3⟩ := h
  refine ⟨v', h3, ?_⟩
  simp only [callOp, hp, hq, hl, hk, Bool.false_eq_true, if_false, if_true, ha, h1, h2, Option.map_some]
theorem W.lcall {f : FuncId} {args args' : List V} {R : V → Prop} (h : Look P pol f args' R) (hp : pol.prim f = none) (hq : pol.pure fn f = false) (hl : pol.lift fn f = false) (hk : pol.look fn f = true) (ha : frzL (frz (hget H) depth) args = some args')
    (h2 : ∀ v, R v → W (U P pol C L fn fr k .normal (putT t d v) H) Q) : W (UC P pol C L fn fr (callOp pol (callW P pol) fn fr d f args H) d k k' t) Q := by
  obtain ⟨v, h3, h4⟩ := callOp_look (d := d) h hp hq hl hk ha
  rw [h4]
  exact h2 v h3
end
theorem frzN_bytes (g : Get) (m : Nat) (b : List UInt8) : frzL (frzN g (m + 1)) (ofBytes b) = some (ofBytes b) := by
  induction b with
  | nil => rfl
  | cons x b ih => simp only [ofBytes, List.map_cons] at ih ⊢; simp only [frzL, ih]; rfl

section
variable {P : Program} {pol : Pol}
def EndS (P : Program) (pol : Pol) (f : FuncId) (F : Func) (b : Nat) (R : V → Heap → Prop) (e : Ex) (t : List V) (H : Heap) : Prop := match e with
  | .normal | .ret => ∃ H2, settleL (pol.settle f) t H = some H2 ∧ EndK P F b R .ret t H2
  | _ => False
theorem cr_ofS {f : FuncId} {F : Func} {c : Code} {args : List V} {H : Heap} {R : V → Heap → Prop} (hF : P.funcs[f]? = some F) (hc : F.body = some c)
    (h : ∀ n K, n = H.length → Fresh H n K → W (U P pol (callW P pol) loopW f n [.code c] .normal (args ++ List.replicate (F.ntmps - args.length) .bad) K) (EndS P pol f F n R)) : CR P pol f args H R := by
  refine cw_ofS hF hc ((h H.length (H ++ [[]]) rfl ⟨by simp, by simp, fun s => ?_, fun f s hf => ?_⟩).mono fun e t H' h => ?_)
  · rw [hget_app0]; rfl
  · exact hget_old H _ hf s
  · cases e with
    | normal => obtain ⟨H2, h1, h2⟩ := h; exact ⟨H2, h1, EndK.to h2⟩
    | ret => obtain ⟨H2, h1, h2⟩ := h; exact ⟨H2, h1, EndK.to h2⟩
    | exit i => exact h.elim
    | panic v => exact h.elim
theorem settle1_at {t : List V} {H : Heap} {k f s o f1 s1 o1 len esz : Nat} {cap : Option Nat} {xs ys : List V} (ht : t.getD k .bad = .ptr f s o) (hx : hget H f s = some (.cells xs)) (hi : xs[o]? = some (.mslice f1 s1 o1 len cap esz))
    (hy : hget H f1 s1 = some (.cells ys)) (hl : o1 + len * esz ≤ ys.length) (hp : pureL ys = true) (hn : ¬ (f = f1 ∧ s = s1)) :
    settle1 t H k = some (hset (hset H f1 s1 .dead) f s (.cells (xs.set o (.islice ((ys.drop o1).take (len * esz)) len (cap == some len))))) := by
  simp only [settle1, ht, hx, hi, hy]
  rw [if_pos ⟨hl, hp, hn⟩]
end

section
variable {P : Program} {u e e2 : TypeId} {x y : Operand}
theorem bn_sl0 (hu : P.underlying u = some (.slice e)) : binV P .eql u x y .nilslice .nilslice = some (.bool true) := by simp [binV, eqOp, hu, nilKind, eqNil, V.isNil]
theorem bn_sl1 (hu : P.underlying u = some (.slice e)) {cs : List V} {n : Nat} {f : Bool} : binV P .eql u x y (.islice cs n f) .nilslice = some (.bool false) := by simp [binV, eqOp, hu, nilKind, eqNil, V.isNil]
theorem bn_pt0 (hu : P.underlying u = some (.pointer e)) : binV P .eql u x y .nilptr .nilptr = some (.bool true) := by simp [binV, eqOp, hu, nilKind, eqNil, V.isNil]
theorem bn_pt1 (hu : P.underlying u = some (.pointer e)) {f s o : Nat} : binV P .eql u x y (.ptr f s o) .nilptr = some (.bool false) := by simp [binV, eqOp, hu, nilKind, eqNil, V.isNil]
theorem bn_mp1 (hu : P.underlying u = some (.map e e2)) {f s : Nat} : binV P .eql u x y (.map f s) .nilmap = some (.bool false) := by simp [binV, eqOp, hu, nilKind, eqNil, V.isNil]
end
theorem frzN_own {g : Get} {f s o len m : Nat} {cap : Option Nat} {xs : List V} {l : List UInt8} (hg : g f s = some (.cells xs)) (hx : (xs.drop o).take len = ofBytes l) (hl : o + len ≤ xs.length) :
    frzN g (m + 2) (.mslice f s o len cap 1) = some (.islice (ofBytes l) len (cap == some len)) := by
  show (match g f s with
    | some (.cells xs) => if o + len * 1 ≤ xs.length then (frzL (frzN g (m + 1)) ((xs.drop o).take (len * 1))).map fun cs => V.islice cs len (cap == some len) else none
    | _ => none) = _
  rw [hg]
  simp only [Nat.mul_one, hl, if_true, hx, frzN_bytes, Option.map_some]

section
variable {P : Program} {t t2 e e2 : TypeId} {n by_ m : Nat} {z cs : List V} {x : V} {g : Get} {mt : Nat → Bool} {fr : Nat} {dst : Option Nat}
theorem app_m0 (hu : P.underlying t = some (.slice e)) (hs : sz P e = some n) (hb : byt P e = some by_) (hz : zeroCells P e = some z) (hzl : z.length = n) (ht : P.underlying t2 = some (.slice e2))
    (hx : sliceCells g n x = some (cs, m)) (hm : 0 < m) (hr : roomy (0 + m) by_ = true) {f s : Nat} (hg : g f s = some (.cells [])) : appendV P mt fr g dst t t2 (.mslice f s 0 0 (some 0) n) x = grown mt g fr dst ([] ++ cs) ([] ++ cs) (0 + m) n := by
  obtain ⟨m, rfl⟩ : ∃ k, m = k + 1 := ⟨m - 1, by omega⟩
  simp only [appendV, hu, hs, hb, hz, hzl, if_true, appSrc, ht, hx, appendTo, hr, hg, and_self]
  rw [if_neg (by omega)]
  simp
end
end Go.AM
end
section
/- The abstract machine, part 46: regions that draw, pair by pair. -/
namespace Go.AM

def confs (bef : Array Nat) : List (Nat × Nat) → List (Nat × Nat)
  | [] => []
  | (a, i) :: r => (r.filterMap fun (b, j) => if (bef.getD j 0).testBit i || (Nat.ble a 1 && Nat.ble b 1) then none else some (i, j)) ++ confs bef r
theorem okT_of_confs (bef : Array Nat) : ∀ T : List (FP × Nat), (∀ p ∈ confs bef (T.map fun x => (x.1.kind, x.2)), ∀ a b, (a, p.1) ∈ T → (b, p.2) ∈ T → a.indep b = true) → okT bef T = true
  | [], _ => rfl
  | (a, i) :: r, h => by
    simp only [okT, Bool.and_eq_true, List.all_eq_true]
    refine ⟨fun x hx => ?_, okT_of_confs bef r fun p hp a' b' ha hb => h p ?_ a' b' (List.mem_cons_of_mem _ ha) (List.mem_cons_of_mem _ hb)⟩
    · obtain ⟨b, j⟩ := x
      simp only [Bool.or_eq_true]
      by_cases c : ((bef.getD j 0).testBit i || (Nat.ble a.kind 1 && Nat.ble b.kind 1)) = true
      · simp only [Bool.or_eq_true, Bool.and_eq_true] at c
        exact c.imp id fun ⟨p, q⟩ => indep_kind _ _ p q
      · right
        refine h (i, j) ?_ a b (by simp) (List.mem_cons_of_mem _ hx)
        simp only [List.map_cons, confs, List.mem_append, List.mem_filterMap]
        left
        refine ⟨(b.kind, j), List.mem_map.2 ⟨(b, j), hx, rfl⟩, ?_⟩
        simp only
        rw [if_neg c]
    · simp only [List.map_cons, confs, List.mem_append]
      exact .inr hp
theorem loud_at {T : List FP} {a : FP} {i : Nat} (h : (a, i) ∈ loud T) : T.getD i .quiet = a := by
  unfold loud at h
  have h1 := (List.mem_filter.1 h).1
  have h2 := List.mem_zipIdx_iff_getElem?.1 h1
  simp only at h2
  rw [List.getD_eq_getElem?_getD, h2]; rfl
def pairsOk (T : List FP) : List (Nat × Nat) → Prop
  | [] => True
  | p :: r => (T.getD p.1 .quiet).indep (T.getD p.2 .quiet) = true ∧ pairsOk T r
theorem pairsOk_mem {T : List FP} : ∀ {L : List (Nat × Nat)}, pairsOk T L → ∀ p ∈ L, (T.getD p.1 .quiet).indep (T.getD p.2 .quiet) = true
  | [], _, p, h => by cases h
  | q :: r, hq, p, h => by
    rcases List.mem_cons.1 h with rfl | h
    · exact hq.1
    · exact pairsOk_mem hq.2 p h
theorem W.opsC {P : Program} {pol : Pol} {C : Call} {L : MBody → Body} {fn fr : Nat} {t : List V} {H : Heap} {a : Array Oper} {T : List FP} {k : List It} {Q : Ex → List V → Heap → Prop} (M : List (Nat × Nat))
    (h : confs (Region.before a) ((loud T.reverse).map fun x => (x.1.kind, x.2)) = M) (hp : pairsOk T.reverse M) (h2 : W (U P pol C L fn fr k .normal t H) Q) : W (U P pol C L fn fr (.opsT a [] T :: k) .normal t H) Q := by
  refine W.opsT (okT_of_confs _ _ fun p hm a b ha hb => ?_) h2
  rw [h] at hm
  rw [← loud_at ha, ← loud_at hb]
  exact pairsOk_mem hp p hm

theorem indep_ids {r w r' w' : List (Nat × Nat)} (h1 : ∀ x ∈ w, x ∉ r') (h2 : ∀ x ∈ w, x ∉ w') (h3 : ∀ x ∈ w', x ∉ r) : FP.indep (.ids r w) (.ids r' w') = true := by
  have m : ∀ a b : List (Nat × Nat), (∀ x ∈ a, x ∉ b) → meets a b = false := by
    intro a b h
    unfold meets
    rw [List.any_eq_false]
    intro x hx
    simpa using h x hx
  simp only [FP.indep, m _ _ h1, m _ _ h2, m _ _ h3, Bool.not_false, Bool.and_self]
end Go.AM
end
section
/- The abstract machine, part 47: writes change places; maps gone through: what is still to come. -/
namespace Go.AM

def leftX {α : Type} (seen : List Nat) : List α → List Nat → List (α × Nat)
  | e :: es, b :: bs => if seen.contains b then leftX seen es bs else (e, b) :: leftX seen es bs
  | _, _ => []
theorem leftE_map {α : Type} (f : α → V × V) (seen : List Nat) : ∀ (xs : List α) (bs : List Nat), leftE seen (xs.map f) bs = (leftX seen xs bs).map fun p => (f p.1, p.2)
  | [], _ => rfl
  | _ :: _, [] => rfl
  | x :: xs, b :: bs => by
    simp only [List.map_cons, leftE, leftX]
    split
    · exact leftE_map f seen xs bs
    · rw [List.map_cons, leftE_map f seen xs bs]
theorem leftX_mem {α : Type} {seen : List Nat} {p : α × Nat} : ∀ {xs : List α} {bs : List Nat}, p ∈ leftX seen xs bs → p.1 ∈ xs ∧ p.2 ∈ bs ∧ p.2 ∉ seen
  | [], _, h => by simp [leftX] at h
  | _ :: _, [], h => by simp [leftX] at h
  | x :: xs, b :: bs, h => by
    simp only [leftX] at h
    split at h
    · have := leftX_mem h
      exact ⟨List.mem_cons_of_mem _ this.1, List.mem_cons_of_mem _ this.2.1, this.2.2⟩
    · rename_i hc
      rcases List.mem_cons.1 h with rfl | h
      · exact ⟨by simp, by simp, by simpa using hc⟩
      · have := leftX_mem h
        exact ⟨List.mem_cons_of_mem _ this.1, List.mem_cons_of_mem _ this.2.1, this.2.2⟩
theorem leftX_skip {α : Type} {seen : List Nat} {b : Nat} : ∀ {xs : List α} {bs : List Nat}, b ∉ bs → leftX (seen ++ [b]) xs bs = leftX seen xs bs
  | [], _, _ => rfl
  | _ :: _, [], _ => rfl
  | x :: xs, c :: bs, h => by
    have h1 : c ≠ b := fun e => h (by simp [e])
    have h2 : b ∉ bs := fun e => h (List.mem_cons_of_mem _ e)
    simp only [leftX, leftX_skip (xs := xs) h2]
    have : (seen ++ [b]).contains c = seen.contains c := by
      simp [h1]
    rw [this]
theorem leftX_perm {α : Type} {seen : List Nat} {p : α × Nat} : ∀ {xs : List α} {bs : List Nat}, bs.Nodup → p ∈ leftX seen xs bs → (leftX seen xs bs).Perm (p :: leftX (seen ++ [p.2]) xs bs)
  | [], _, _, h => by simp [leftX] at h
  | _ :: _, [], _, h => by simp [leftX] at h
  | x :: xs, b :: bs, hu, h => by
    obtain ⟨hb, hu⟩ := List.nodup_cons.1 hu
    simp only [leftX] at h ⊢
    by_cases hc : seen.contains b = true
    · rw [if_pos hc] at h ⊢
      have : (seen ++ [p.2]).contains b = true := by simp at hc ⊢; exact .inl hc
      rw [if_pos this]
      exact leftX_perm hu h
    · rw [if_neg hc] at h ⊢
      rcases List.mem_cons.1 h with rfl | h
      · have : (seen ++ [b]).contains b = true := by simp
        simp only [this, if_true]
        rw [leftX_skip hb]
      · have hm := leftX_mem h
        have hne : b ≠ p.2 := fun e => hb (e ▸ hm.2.1)
        have : ¬ (seen ++ [p.2]).contains b = true := by simp at hc ⊢; exact ⟨hc, hne⟩
        rw [if_neg this]
        exact ((leftX_perm hu h).cons _).trans (List.Perm.swap _ _ _)
theorem leftX_nil {α : Type} : ∀ (xs : List α) (bs : List Nat), xs.length = bs.length → (leftX [] xs bs).map (·.1) = xs
  | [], _, _ => rfl
  | _ :: _, [], h => by simp at h
  | x :: xs, b :: bs, h => by
    simp only [leftX, List.contains_nil, Bool.false_eq_true, if_false, List.map_cons]
    rw [leftX_nil xs bs (by simpa using h)]
theorem entryAt_map {α : Type} (f : α → V × V) {seen : List Nat} {p : α × Nat} : ∀ {xs : List α} {bs : List Nat}, bs.Nodup → p ∈ leftX seen xs bs → entryAt p.2 (xs.map f) bs = some (f p.1)
  | [], _, _, h => by simp [leftX] at h
  | _ :: _, [], _, h => by simp [leftX] at h
  | x :: xs, b :: bs, hu, h => by
    obtain ⟨hb, hu⟩ := List.nodup_cons.1 hu
    simp only [leftX] at h
    simp only [List.map_cons, entryAt]
    by_cases hc : seen.contains b = true
    · rw [if_pos hc] at h
      have hm := leftX_mem h
      rw [if_neg (fun e : b = p.2 => hb (by rw [e]; exact hm.2.1))]
      exact entryAt_map f hu h
    · rw [if_neg hc] at h
      rcases List.mem_cons.1 h with rfl | h
      · simp
      · have hm := leftX_mem h
        rw [if_neg (fun e : b = p.2 => hb (by rw [e]; exact hm.2.1))]
        exact entryAt_map f hu h
end Go.AM
end
section
/- The abstract machine, part 48: the walk's rules in bundles. -/
namespace Go.AM
abbrev walk := And.intro @u_seq <| And.intro @u_region <| And.intro @u_block <| And.intro @w_op <| And.intro @us_val <| And.intro @us_call <| And.intro @us_panic <| And.intro @uc_ret <| And.intro @uc_pan <| And.intro @w_cond <| And.intro @ui_true <| And.intro @ui_false <| And.intro @w_opT <| And.intro @ust_val <| And.intro @ust_set <| And.intro @ust_call <| And.intro @uct_ret <| And.intro @w_guardT <| And.intro @ugt_tt <| And.intro @ugt_ff <| And.intro @ugt_tf <| And.intro @ugt_ft <| And.intro @u_draw <| And.intro @w_guard <| And.intro @ug_tt <| And.intro @ug_ff <| And.intro @ug_tf <| And.intro @ug_ft <| And.intro @ug_no <| And.intro @ugt_no <| And.intro @w_loop <| And.intro @ul_some <| And.intro @u_ops_nil <| And.intro @u_skip <| And.intro @u_ret <| And.intro @u_exit <| And.intro @u_nil <| And.intro @u_code_ret <| And.intro @u_code_exit <| And.intro @u_code_panic <| And.intro @u_block_normal <| And.intro @u_block_ret <| And.intro @u_block_panic <| And.intro @u_block_exit <| And.intro @b_add <| And.intro @b_sub <| And.intro @b_mul <| And.intro @b_eql <| And.intro @b_neq <| And.intro @b_lss <| And.intro @b_leq <| And.intro @b_gtr <| And.intro @b_geq <| And.intro @b_sadd <| And.intro @b_seql <| And.intro @b_sneq <| And.intro @oc_int <| And.intro @oc_bool <| And.intro @oc_str <| And.intro @oc_nilslice <| And.intro @oc_nilptr <| And.intro @oc_nilmap <| And.intro @oc_nilfunc <| And.intro @oc_nilface <| And.intro @bi_len <| And.intro @bi_max <| And.intro @bi_min <| And.intro @mx_nil <| And.intro @mx_one <| And.intro @frz_islice <| And.intro @frz_nilslice <| And.intro @frz_int <| And.intro @frz_bool <| @frz_str
abbrev walkM := And.intro @un_not' <| And.intro @fao_some <| And.intro @fa_ptr <| And.intro @fa_iptr <| And.intro @fv_agg <| And.intro @ld_ptr <| And.intro @ld_iptr <| And.intro @ldO_cells <| And.intro @st_ptr <| And.intro @cells_agg <| And.intro @sc_bool <| And.intro @sc_int <| And.intro @sc_str <| And.intro @sc_nilptr <| And.intro @sc_ptr <| And.intro @sc_iptr <| And.intro @sc_nilslice <| And.intro @sc_islice <| And.intro @sc_mslice <| And.intro @sc_gslice <| And.intro @sc_nilmap <| And.intro @sc_map <| @sc_func
abbrev walkB := And.intro @cells_int <| And.intro @cells_bool <| And.intro @cells_str <| And.intro @cells_nilptr <| And.intro @cells_ptr <| And.intro @cells_iptr <| And.intro @cells_nilslice <| And.intro @cells_islice <| And.intro @cells_gslice <| And.intro @cells_mslice <| And.intro @cells_nilmap <| And.intro @cells_map <| And.intro @cells_func <| And.intro @cells_nilfunc <| And.intro @cells_nilface <| @cells_face
abbrev walkL := And.intro @List.getD_cons_zero.{0} <| And.intro @List.getD_cons_succ.{0} <| And.intro @List.set_cons_zero.{0} <| And.intro @List.set_cons_succ.{0} <| And.intro @List.map_cons.{0, 0} <| And.intro @List.map_nil.{0, 0} <| And.intro @Option.map_some.{0, 0} <| And.intro @Option.map_none.{0, 0} <| And.intro @Option.bind_some.{0, 0} <| And.intro @Option.bind_none.{0, 0} <| And.intro @List.length_nil.{0} <| And.intro @List.length_cons.{0} <| And.intro @List.nil_append.{0} <| And.intro @List.cons_append.{0} <| And.intro @List.append_nil.{0} <| And.intro @List.replicate_succ.{0} <| And.intro @List.replicate_zero.{0} <| And.intro @List.getElem?_cons_zero.{0} <| And.intro @List.getElem?_cons_succ.{0} <| @List.getElem?_toArray.{0}
end Go.AM
end
section
/- The model in plain words: objects, lines, replies, and what each call does to one line. -/
namespace Go.Mod

abbrev Bytes := List UInt8
structure MObj where
  kind : Int
  links : Int
  data : Bytes
  deriving Inhabited
structure MLine where
  snap : Bool
  owner : Int
  prev : Int
  key : Nat
  names : List (Bytes × Int)
  objs : List MObj
  deriving Inhabited
structure MKey where
  pass : Bytes
  loaded : Bool
  deriving Inhabited
structure MSt where
  last : Int
  keys : List MKey
  lines : List (Int × MLine)
structure MInfo where
  obj : Int
  kind : Int
  links : Int
  size : Int
  to : Bytes
structure MReply where
  err : Int
  id : Int
  data : Bytes
  names : List Bytes
  info : MInfo
  lines : List Int
structure MCall where
  kind : Int
  a : Int
  b : Int
  c : Int
  name : Bytes
  as_ : Bytes
  text : Bytes
  data : Bytes

def noObj : MObj := ⟨0, 0, []⟩
def noInfo : MInfo := ⟨0, 0, 0, 0, []⟩
def fail (e : Int) : MReply := ⟨e, 0, [], [], noInfo, []⟩

def badB (b : UInt8) : Bool := decide (b.toNat < 33) || decide (126 < b.toNat)
def okName (s : Bytes) : Bool := decide (1 ≤ s.length) && decide (s.length ≤ 14) && !s.any badB
def nameE (s : Bytes) : Int := if okName s then 0 else 240
def numOf : List (Bytes × Int) → Bytes → Option Int
  | [], _ => none
  | p :: l, s => if s = p.1 then some p.2 else numOf l s
def idxOf : List (Bytes × Int) → Bytes → Nat → Option Nat
  | [], _, _ => none
  | p :: l, s, i => if s = p.1 then some i else idxOf l s (i + 1)
def eraseN : List (Bytes × Int) → Bytes → List (Bytes × Int)
  | [], _ => []
  | p :: l, s => if s = p.1 then l else p :: eraseN l s
def roomE (l : List (Bytes × Int)) (s : Bytes) : Int := if (numOf l s).isSome then 241 else if 16 ≤ l.length then 4 else 0

def MLine.ob (L : MLine) (i : Int) : MObj := (L.objs[i.toNat]?).getD noObj
def MLine.setOb (L : MLine) (i : Int) (o : MObj) : MLine := { L with objs := L.objs.set i.toNat o }

def MLine.follow (L : MLine) : Nat → Bytes → Int × Int
  | 0, _ => (0, 251)
  | n + 1, name => match numOf L.names name with
    | none => (0, 6)
    | some at_ => if (L.ob at_).kind = 3 then L.follow n (L.ob at_).data else (at_, 0)

def freeFrom (l : List MObj) : Nat → Nat → Nat
  | 0, i => i
  | n + 1, i => if ((l[i]?).getD noObj).kind = 0 then i else freeFrom l n (i + 1)
def MLine.free (L : MLine) : Nat := freeFrom L.objs 15 1

def turnE (e : Int) (snap : Bool) : Int := if e = 0 then (if snap then 202 else 0) else e
def MLine.turn (L : MLine) (e : Int) (L' : MLine) : MLine × MReply := if turnE e L.snap = 0 then (L', fail 0) else (L, fail (turnE e L.snap))

def addE (L : MLine) (name : Bytes) : Int := if roomE L.names name ≠ 0 then roomE L.names name else if L.free = 16 then 9 else if L.snap then 202 else 0
def MLine.add (L : MLine) (name : Bytes) (o : MObj) : MLine × MReply :=
  if addE L name = 0 then ({ L with objs := L.objs.set L.free o, names := L.names ++ [(name, (L.free : Int))] }, fail 0) else (L, fail (addE L name))

def w64 (n : Int) : Int := IntKind.i64.wrap n

def MLine.make (L : MLine) (c : MCall) : MLine × MReply := L.add c.name ⟨1, 1, []⟩
def MLine.point (L : MLine) (c : MCall) : MLine × MReply := if nameE c.as_ ≠ 0 then (L, fail (nameE c.as_)) else L.add c.name ⟨3, 1, c.as_⟩
def linkE (L : MLine) (c : MCall) : Int :=
  if nameE c.as_ ≠ 0 then nameE c.as_ else match numOf L.names c.name with
    | none => 6
    | some at_ => if (L.ob at_).kind ≠ 1 then 250 else roomE L.names c.as_
def MLine.link (L : MLine) (c : MCall) : MLine × MReply :=
  let at_ := (numOf L.names c.name).getD 0
  L.turn (linkE L c) { L.setOb at_ { L.ob at_ with links := w64 ((L.ob at_).links + 1) } with names := L.names ++ [(c.as_, at_)] }
def MLine.unlink (L : MLine) (c : MCall) : MLine × MReply :=
  let at_ := (numOf L.names c.name).getD 0
  L.turn (if (numOf L.names c.name).isSome then 0 else 6)
    { L.setOb at_ (if w64 ((L.ob at_).links - 1) = 0 then noObj else { L.ob at_ with links := w64 ((L.ob at_).links - 1) }) with names := eraseN L.names c.name }
def renameE (L : MLine) (c : MCall) : Int :=
  if nameE c.as_ ≠ 0 then nameE c.as_ else if (numOf L.names c.name).isSome then (if (numOf L.names c.as_).isSome then 241 else 0) else 6
def MLine.rename (L : MLine) (c : MCall) : MLine × MReply :=
  L.turn (renameE L c) { L with names := eraseN L.names c.name ++ [(c.as_, (numOf L.names c.name).getD 0)] }
def inR (n : Int) : Bool := decide (0 ≤ n) && decide (n ≤ 3840)
def partB (l : Bytes) (c b : Int) : Bytes := (l.drop c.toNat).take b.toNat
def MLine.read (L : MLine) (c : MCall) : MLine × MReply :=
  if !inR c.b || !inR c.c then (L, fail 2) else
  if (L.follow 9 c.name).2 ≠ 0 then (L, fail (L.follow 9 c.name).2) else
  (L, { fail 0 with data := partB (L.ob (L.follow 9 c.name).1).data c.c c.b })
def sized (l : Bytes) (n : Nat) : Bytes := l.take n ++ List.replicate (n - l.length) 0
def over (l : Bytes) (o : Nat) (d : Bytes) : Bytes := l.take o ++ d ++ l.drop (o + d.length)
def wrote (l : Bytes) (o : Nat) (d : Bytes) : Bytes := if d.length = 0 then l else over (sized l (max l.length (o + d.length))) o d
def MLine.write (L : MLine) (c : MCall) : MLine × MReply :=
  if !inR c.c || decide ((c.data.length : Int) > 3840 - c.c) then (L, fail 2) else
  let f := L.follow 9 c.name
  L.turn f.2 (L.setOb f.1 { L.ob f.1 with data := wrote (L.ob f.1).data c.c.toNat c.data })
def MLine.cut (L : MLine) (c : MCall) : MLine × MReply :=
  if !inR c.b then (L, fail 2) else
  let f := L.follow 9 c.name
  L.turn f.2 (L.setOb f.1 { L.ob f.1 with data := sized (L.ob f.1).data c.b.toNat })
def MLine.stat (L : MLine) (c : MCall) : MLine × MReply :=
  match numOf L.names c.name with
  | none => (L, fail 6)
  | some at_ => (L, { fail 0 with info := ⟨at_, (L.ob at_).kind, (L.ob at_).links, (L.ob at_).data.length, if (L.ob at_).kind = 3 then (L.ob at_).data else []⟩ })
def MLine.list (L : MLine) : MLine × MReply := (L, { fail 0 with names := Go.AM.sortB (L.names.map (·.1)) })

structure LineOk (L : MLine) : Prop where
  n16 : L.objs.length = 16
  nums : ∀ p ∈ L.names, 1 ≤ p.2 ∧ p.2 < 16
  few : L.names.length ≤ 16
  uniq : (L.names.map (·.1)).Nodup
  short : ∀ p ∈ L.names, p.1.length ≤ 14
  data : ∀ o ∈ L.objs, o.data.length ≤ 3840

theorem numOf_mem {l : List (Bytes × Int)} {s : Bytes} {n : Int} (h : numOf l s = some n) : (s, n) ∈ l := by
  induction l with
  | nil => cases h
  | cons p l ih =>
    simp only [numOf] at h
    split at h
    · rename_i e; subst e; cases h; simp
    · exact List.mem_cons_of_mem _ (ih h)
theorem numOf_none {l : List (Bytes × Int)} {s : Bytes} : numOf l s = none ↔ s ∉ l.map (·.1) := by
  induction l with
  | nil => simp [numOf]
  | cons p l ih =>
    simp only [numOf]
    split
    · rename_i e; simp [e]
    · rename_i e; rw [ih]; simp [e]
theorem LineOk.num {L : MLine} (h : LineOk L) {s : Bytes} {n : Int} (e : numOf L.names s = some n) : 1 ≤ n ∧ n < 16 := h.nums _ (numOf_mem e)
theorem LineOk.at_ {L : MLine} (h : LineOk L) {i : Int} (h0 : 0 ≤ i) (h1 : i < 16) : L.objs[i.toNat]? = some (L.ob i) := by
  have : i.toNat < L.objs.length := by rw [h.n16]; omega
  simp only [MLine.ob, List.getElem?_eq_getElem this, Option.getD_some]
theorem LineOk.dat {L : MLine} (h : LineOk L) (i : Int) : (L.ob i).data.length ≤ 3840 := by
  unfold MLine.ob
  cases e : L.objs[i.toNat]? with
  | none => simp [noObj]
  | some o => exact h.data o (List.mem_of_getElem? e)
end Go.Mod
end
