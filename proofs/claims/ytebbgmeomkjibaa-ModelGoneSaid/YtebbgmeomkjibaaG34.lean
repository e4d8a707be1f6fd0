/- This file holds in one the texts O7; each says at its head what it proves. -/
import Derived.Test.YtebbgmeomkjibaaG29
import Derived.Test.YtebbgmeomkjibaaG33
set_option linter.unusedSimpArgs false
set_option linter.unusedVariables false
section
/- model: the calls on one line that go by turned. -/
set_option maxRecDepth 100000
namespace Go.Proofs.Ytebbgmeomkjibaa
open Go.AM Go.Mod

attribute [local irreducible] U W lineC

structure Rest (H H' : Heap) (a : Loc) : Prop where
  len : H.length ≤ H'.length
  get : ∀ f s, f < H.length → ¬ (f = a.f ∧ s = a.s) → ¬ (f = a.nf ∧ s = a.ns) → hget H' f s = hget H f s
structure CallOk (c : MCall) (dv : V) : Prop where
  data : IsBytes dv c.data
  name : c.name.length ≤ 100000
  as_ : c.as_.length ≤ 100000
  text : c.text.length ≤ 100000
  dlen : c.data.length ≤ 100000
theorem IsSl.scalar {esz n : Nat} {v : V} {cells : List V} (h : IsSl esz v cells n) : v.scalar = true := by
  obtain ⟨_, ⟨rfl, _⟩ | ⟨f, rfl⟩⟩ := h <;> rfl
theorem IsSl.cells {esz n : Nat} {v : V} {cells : List V} (h : IsSl esz v cells n) : v.cells = some [v] := by
  obtain ⟨_, ⟨rfl, _⟩ | ⟨f, rfl⟩⟩ := h <;> rfl

def LSpec (f : FuncId) (g : MLine → MCall → MLine × MReply) : Prop := ∀ (H : Heap) (a : Loc) (L : MLine) (c : MCall) (dv : V), LineOk L → LineIn H a L → CallOk c dv →
  CR Try.prog pol f [.ptr a.f a.s 0, .agg (callC c dv)] H fun v H' => RepV v (g L c).2 ∧ LineIn H' a (g L c).1 ∧ Rest H H' a

theorem LineAt.low {H K : Heap} {a : Loc} {L : MLine} {l : List Ob} {bs : List Nat} {clk : Nat} (h : LineAt H a L l bs clk) (hk : ∀ f s, f < H.length → hget K f s = hget H f s) : LineAt K a L l bs clk :=
  ⟨h.obs, (hk _ _ (hget_lt h.cells)).trans h.cells, (hk _ _ (hget_lt h.names)).trans h.names, h.born⟩
theorem LineAt.ch {H K : Heap} {a : Loc} {L : MLine} {l : List Ob} {bs : List Nat} {clk : Nat} (h : LineAt H a L l bs clk) (c : Ch H K []) : LineAt K a L l bs clk := h.low fun f s hf => c.get f s hf
theorem line_upd {H H' : Heap} {a : Loc} {L' : MLine} {l' : List Ob} {bs' : List Nat} {clk' : Nat} {w : List (Nat × Nat × O)} (hf : a.f < H.length) (hnf : a.nf < H.length) (c : Ch H H' w) (hw : ∀ x ∈ w, (x.1 = a.f ∧ x.2.1 = a.s) ∨ (x.1 = a.nf ∧ x.2.1 = a.ns))
    (h1 : lk a.f a.s w (hget H a.f a.s) = some (.cells (lineC a L'.snap L'.owner L'.prev l'))) (h2 : lk a.nf a.ns w (hget H a.nf a.ns) = some (.map (encN L'.names) bs' clk')) (ob : ObsAt l' L'.objs) (bo : Born L'.names.length bs' clk') : LineIn H' a L' ∧ Rest H H' a := by
  refine ⟨⟨l', bs', clk', ob, (c.get _ _ hf).trans h1, (c.get _ _ hnf).trans h2, bo⟩, c.len, fun f s hlt n1 n2 => c.other rfl hlt fun x hx => ?_⟩
  rcases hw x hx with ⟨e1, e2⟩ | ⟨e1, e2⟩
  · rw [e1, e2]; exact n1
  · rw [e1, e2]; exact n2
theorem line_same {H H' : Heap} {a : Loc} {L : MLine} {l : List Ob} {bs : List Nat} {clk : Nat} (hL : LineAt H a L l bs clk) (c : Ch H H' []) : LineIn H' a L ∧ Rest H H' a :=
  line_upd (hget_lt hL.cells) (hget_lt hL.names) c (by simp) hL.cells hL.names hL.obs hL.born
theorem Ch.fin {H K2 K3 : Heap} {n s : Nat} {v : V} {o : O} {w : List (Nat × Nat × O)} (hn : n = H.length) (low : ∀ f s, f < n → hget K2 f s = hget H f s) (h2 : n < K2.length) (c : Ch K2 K3 w) : Ch H (popF n v (hset K3 n s o)) w := by
  have h3 : n < K3.length := Nat.lt_of_lt_of_le h2 c.len
  subst hn
  refine ⟨popF_len (by simp only [hset_length]; omega), fun f s h => ?_⟩
  rw [popF_get h, hget_frame h3 (by omega), c.get f s (by omega), low f s h]

theorem turn_zero {e : Int} {sn : Bool} (h : turnE e sn = 0) : e = 0 ∧ sn = false := by
  unfold turnE at h
  split at h
  · rename_i he
    cases sn with
    | true => simp at h
    | false => exact ⟨he, rfl⟩
  · rename_i he; exact absurd h he
theorem turn_conc {H H' : Heap} {a : Loc} {L : MLine} {l : List Ob} {bs : List Nat} {clk : Nat} (hL : LineAt H a L l bs clk) {e : Int} {L' : MLine} {w : List (Nat × Nat × O)} (c : Ch H H' (if turnE e L.snap = 0 then w else []))
    (h : e = 0 → turnE e L.snap = 0 → Ch H H' w → LineIn H' a L' ∧ Rest H H' a) : RepV (failV (turnE e L.snap)) (L.turn e L').2 ∧ LineIn H' a (L.turn e L').1 ∧ Rest H H' a := by
  unfold MLine.turn
  by_cases hz : turnE e L.snap = 0
  · rw [if_pos hz] at c ⊢
    rw [hz]
    exact ⟨rep_fail 0, h (turn_zero hz).1 hz c⟩
  · rw [if_neg hz] at c ⊢
    exact ⟨rep_fail _, line_same hL c⟩

theorem turned_nX (n : Nat) (K2 : Heap) (a : Loc) (sn : Bool) (ow pr : Int) (l : List Ob) (hl : hget K2 a.f a.s = some (.cells (lineC a sn ow pr l))) (e : Int) (g : FuncId) (caps : List V) (X : List (Nat × Nat × O) → Prop) (hp : pol.prim g = none)
    (hq : pol.pure 48 g = false) (hli : pol.lift 48 g = false) (hlo : pol.look 48 g = false) (hlt : n < K2.length) (hw : ∀ w, X w → ∀ x ∈ w, x.1 < n)
    (hdo : e = 0 → sn = false → ∀ J, Ch K2 J [] → CR Try.prog pol g caps J fun _ J' => ∃ w, X w ∧ Ch J J' w) :
    CR Try.prog pol 48 [.ptr a.f a.s 0, .int .i64 e, .func (.func g) [] caps] K2 fun v K3 => v = failV (turnE e sn) ∧ (∃ w, (turnE e sn = 0 → X w) ∧ Ch K2 K3 (if turnE e sn = 0 then w else [])) ∧ n < K3.length ∧ ∀ s, hget K3 n s = hget K2 n s := by
  refine (turned_crX K2 a sn ow pr l hl e g caps X hp hq hli hlo (fun hz => hdo (turn_zero hz).1 (turn_zero hz).2) (fun w hX x hx => by have := hw w hX x hx; omega)).mono ?_
  rintro v K3 ⟨hv, w, hX, hc⟩
  refine ⟨hv, ⟨w, hX, hc⟩, hc.lt hlt, fun s => hc.own hlt ?_⟩
  split
  · rename_i hz; exact hw w (hX hz)
  · simp
theorem turned_n (n : Nat) (K2 : Heap) (a : Loc) (sn : Bool) (ow pr : Int) (l : List Ob) (hl : hget K2 a.f a.s = some (.cells (lineC a sn ow pr l))) (e : Int) (g : FuncId) (caps : List V) (w : List (Nat × Nat × O)) (hp : pol.prim g = none)
    (hq : pol.pure 48 g = false) (hli : pol.lift 48 g = false) (hlo : pol.look 48 g = false) (hlt : n < K2.length) (hw : ∀ x ∈ w, x.1 < n)
    (hdo : e = 0 → sn = false → ∀ J, Ch K2 J [] → CR Try.prog pol g caps J fun _ J' => Ch J J' w) :
    CR Try.prog pol 48 [.ptr a.f a.s 0, .int .i64 e, .func (.func g) [] caps] K2 fun v K3 => v = failV (turnE e sn) ∧ Ch K2 K3 (if turnE e sn = 0 then w else []) ∧ n < K3.length ∧ ∀ s, hget K3 n s = hget K2 n s := by
  refine (turned_nX n K2 a sn ow pr l hl e g caps (fun w' => w' = w) hp hq hli hlo hlt (fun w' h => by subst h; exact hw) (fun h1 h2 J cj => (hdo h1 h2 J cj).mono fun _ J' h => ⟨w, rfl, h⟩)).mono ?_
  rintro v K3 ⟨hv, ⟨w', hX, hc⟩, h3, h4⟩
  refine ⟨hv, ?_, h3, h4⟩
  by_cases hz : turnE e sn = 0
  · rw [hX hz] at hc; exact hc
  · rw [if_neg hz] at hc ⊢; exact hc
theorem low2 {a : Loc} {n : Nat} {o o' : O} (h1 : a.f < n) (h2 : a.nf < n) : ∀ x ∈ ([(a.f, a.s, o), (a.nf, a.ns, o')] : List (Nat × Nat × O)), x.1 < n := by
  intro x hx
  simp only [List.mem_cons, List.not_mem_nil, or_false] at hx
  rcases hx with rfl | rfl <;> assumption
theorem low1 {a : Loc} {n : Nat} {o : O} (h1 : a.f < n) : ∀ x ∈ ([(a.f, a.s, o)] : List (Nat × Nat × O)), x.1 < n := by
  intro x hx
  simp only [List.mem_cons, List.not_mem_nil, or_false] at hx
  rcases hx with rfl; assumption
theorem low1' {a : Loc} {n : Nat} {o : O} (h1 : a.nf < n) : ∀ x ∈ ([(a.nf, a.ns, o)] : List (Nat × Nat × O)), x.1 < n := by
  intro x hx
  simp only [List.mem_cons, List.not_mem_nil, or_false] at hx
  rcases hx with rfl; assumption

theorem link_l : LSpec 31 MLine.link := by
  rintro H a L c dv ok ⟨l, bs, clk, hL⟩ hc
  refine cr_of Try.func31 rfl ?_
  intro n K hn F
  have A := F.at_ hn hL.cells
  have B := F.at_ hn hL.names
  have sdv := IsSl.scalar hc.data
  have lk := fun g h => lookup_names (g := g) (nf := a.nf) (ns := a.ns) (l := L.names) (bs := bs) (clk := clk) h c.name
  generalize hm : (numOf L.names c.name).getD 0 = m at *
  have hm0 : 0 ≤ m ∧ m < 16 := by
    cases h : numOf L.names c.name with
    | none => rw [h] at hm; simp at hm; omega
    | some x => rw [h] at hm; simp at hm; subst hm; have := ok.num h; omega
  obtain ⟨o, ho, hk, hlk, hd⟩ := hL.obs.at_ (ok.at_ hm0.1 hm0.2)
  let w : List (Nat × Nat × O) := [(a.f, a.s, .cells (lineC a L.snap L.owner L.prev (l.set m.toNat { o with links := w64 (o.links + 1) }))), (a.nf, a.ns, .map (encN (L.names ++ [(c.as_, m)])) (bs ++ [clk]) (clk + 1))]
  have fin : ∀ K2 : Heap, n < K2.length → (∀ f s, f < n → hget K2 f s = hget H f s) → hget K2 n 6 = some (.cells [.int .i64 m]) → hget K2 n 2 = some (.cells [.ptr a.f a.s 0]) → hget K2 n 3 = some (.cells (callC c dv)) → ∀ e, e = linkE L c →
      CR Try.prog pol 48 [.ptr a.f a.s 0, .int .i64 e, .func (.func 49) [] [.ptr n 6 0, .ptr n 2 0, .ptr n 3 0]] K2 fun v K3 => v = failV (turnE (linkE L c) L.snap) ∧ Ch K2 K3 (if turnE (linkE L c) L.snap = 0 then w else []) ∧ n < K3.length ∧ ∀ s, hget K3 n s = hget K2 n s := by
    intro K2 hlt low g6 g2 g3 e he
    subst he
    have hL2 := hL.low (K := K2) (by rw [← hn]; exact low)
    refine turned_n n K2 a L.snap L.owner L.prev l hL2.cells _ _ _ w rfl rfl rfl rfl hlt (low2 A.lt B.lt) (fun hz _ J cj => ?_)
    refine (link1_cr J n a L l bs clk (hL2.ch cj) c dv m hm0.1 hm0.2 o ho A.lt B.lt ((cj.get _ _ hlt).trans g6) ((cj.get _ _ hlt).trans g2) ((cj.get _ _ hlt).trans g3) ?_)
    unfold linkE at hz
    split at hz
    · rename_i h; exact absurd hz h
    · split at hz
      · cases hz
      · split at hz
        · cases hz
        · unfold roomE at hz
          cases h : numOf L.names c.as_ with
          | none => rfl
          | some x => rw [h] at hz; simp at hz
  have conc : ∀ H', Ch H H' (if turnE (linkE L c) L.snap = 0 then w else []) → RepV (failV (turnE (linkE L c) L.snap)) (L.link c).2 ∧ LineIn H' a (L.link c).1 ∧ Rest H H' a := by
    intro H' hch
    refine turn_conc hL hch fun _ _ h => ?_
    rw [hm]
    refine line_upd (hget_lt hL.cells) (hget_lt hL.names) h ?_ (l' := l.set m.toNat { o with links := w64 (o.links + 1) }) (bs' := bs ++ [clk]) (clk' := clk + 1) ?_ ?_ ?_ ?_
    · intro x hx; simp only [w, List.mem_cons, List.not_mem_nil, or_false] at hx; rcases hx with rfl | rfl <;> simp
    · simp only [w, AM.lk, and_self, if_true, MLine.setOb]
    · simp only [w, AM.lk, hL.ne2, and_self, if_true, if_false]
    · exact hL.obs.set _ ⟨hk, by simp only [hlk], hd⟩
    · simp only [List.length_append, List.length_cons, List.length_nil]; exact hL.born.add
  simp only [walk, walkL, evOp, quietOp, farOp, nov, gd, rho, putT, wr, Nat.reduceAdd, Nat.reduceSub, Bool.false_eq_true, if_true, if_false, reduceIte, reduceCtorEq, walkM, Int.reduceBEq, Int.reduceBNe, Int.reduceLT, Int.reduceLE, decide_true, decide_false, eq_self, Bool.not_true, Bool.not_false, ↓ev_fa, ↓ev_field, ↓ev_load, ↓ev_store, stO_cells, List.all_cons, List.all_nil, Bool.and_self, Bool.and_true, Try.ntmps31, ta31, new, hget_hset', hset_length, and_false, false_and, and_true, true_and, and_self, Nat.reduceEqDiff, Nat.reduceLT, Nat.lt_irrefl, Nat.not_lt_zero, splice, zerosN, fillV, walkB, pureL, V.pure, Nat.reduceMul, Nat.reduceLeDiff, Nat.one_ne_zero, List.take_zero, List.drop_succ_cons, List.drop_zero, List.take_succ_cons, List.replicate_one, List.drop_nil, List.take_nil, Nat.le_refl, Nat.zero_add, Nat.zero_mul, Nat.one_mul, Nat.mul_one, F.own, F.lt, callC, sdv]
  refine W.pcall (named_fz c.as_ (by have := hc.as_; omega)) rfl rfl rfl ?_
  rintro _ rfl
  simp only [walk, walkL, evOp, quietOp, farOp, nov, gd, rho, putT, wr, Nat.reduceAdd, Nat.reduceSub, Bool.false_eq_true, if_true, if_false, reduceIte, reduceCtorEq, walkM, Int.reduceBEq, Int.reduceBNe, Int.reduceLT, Int.reduceLE, decide_true, decide_false, eq_self, Bool.not_true, Bool.not_false, ↓ev_fa, ↓ev_field, ↓ev_load, ↓ev_store, stO_cells, List.all_cons, List.all_nil, Bool.and_self, Bool.and_true, ta31, new, hget_hset', hset_length, and_false, false_and, and_true, true_and, and_self, Nat.reduceEqDiff, Nat.reduceLT, Nat.lt_irrefl, Nat.not_lt_zero, splice, zerosN, fillV, walkB, pureL, V.pure, Nat.reduceMul, Nat.reduceLeDiff, Nat.one_ne_zero, List.take_zero, List.drop_succ_cons, List.drop_zero, List.take_succ_cons, List.replicate_one, List.drop_nil, List.take_nil, Nat.le_refl, Nat.zero_add, Nat.zero_mul, Nat.one_mul, Nat.mul_one, F.own, F.lt, A.get, A.ltK, B.get, B.ltK, lc_0, lc_1, lc_2, lc_3, lc_4, Nat.add_zero, callC, A.ne, B.ne, ↓lk, hm]
  refine W.opsC [(0, 10), (3, 10), (5, 10), (6, 10)] (by kernel_rfl) (by simp only [pairsOk, List.getD_cons_zero, List.getD_cons_succ, List.reverse_cons, List.reverse_nil, List.nil_append, List.cons_append, and_true]; refine ⟨?_, ?_, ?_, ?_⟩ <;> (refine indep_ids (by simp) (by simp) ?_; simp [idsOf, Op.operands, rho, V.id?, A.ne, B.ne, Ne.symm A.ne, Ne.symm B.ne])) ?_
  simp only [walk, walkL, evOp, quietOp, farOp, nov, gd, rho, putT, wr, Nat.reduceAdd, Nat.reduceSub, Bool.false_eq_true, if_true, if_false, reduceIte, reduceCtorEq, walkM, Int.reduceBEq, Int.reduceBNe, Int.reduceLT, Int.reduceLE, decide_true, decide_false, eq_self, Bool.not_true, Bool.not_false, ↓ev_fa, ↓ev_field, ↓ev_load, ↓ev_store, stO_cells, List.all_cons, List.all_nil, Bool.and_self, Bool.and_true]
  refine W.ite (fun h1 => ?_) (fun h1 => ?_)
  · have h1' : ¬ nameE c.as_ = 0 := by simpa using h1
    simp only [walk, walkL, evOp, quietOp, farOp, nov, gd, rho, putT, wr, Nat.reduceAdd, Nat.reduceSub, Bool.false_eq_true, if_true, if_false, reduceIte, reduceCtorEq, walkM, Int.reduceBEq, Int.reduceBNe, Int.reduceLT, Int.reduceLE, decide_true, decide_false, eq_self, Bool.not_true, Bool.not_false, ↓ev_fa, ↓ev_field, ↓ev_load, ↓ev_store, stO_cells, List.all_cons, List.all_nil, Bool.and_self, Bool.and_true, ta31, new, hget_hset', hset_length, and_false, false_and, and_true, true_and, and_self, Nat.reduceEqDiff, Nat.reduceLT, Nat.lt_irrefl, Nat.not_lt_zero, splice, zerosN, fillV, walkB, pureL, V.pure, Nat.reduceMul, Nat.reduceLeDiff, Nat.one_ne_zero, List.take_zero, List.drop_succ_cons, List.drop_zero, List.take_succ_cons, List.replicate_one, List.drop_nil, List.take_nil, Nat.le_refl, Nat.zero_add, Nat.zero_mul, Nat.one_mul, Nat.mul_one, F.own, F.lt]
    refine W.call (fin _ (by simp only [hset_length]; exact F.lt) (fun f s h => by simp only [hget_hset', hset_length, F.lt, Nat.ne_of_lt h, false_and, if_false]; exact F.low f s h) (by simp only [hget_hset', hset_length, F.lt, and_self, and_true, and_false, true_and, eq_self, if_true, if_false, Nat.reduceEqDiff, callC]; try rfl) (by simp only [hget_hset', hset_length, F.lt, and_self, and_true, and_false, true_and, eq_self, if_true, if_false, Nat.reduceEqDiff, callC]; try rfl) (by simp only [hget_hset', hset_length, F.lt, and_self, and_true, and_false, true_and, eq_self, if_true, if_false, Nat.reduceEqDiff, callC]; try rfl) _ (by rw [linkE, if_pos h1'])) rfl rfl rfl rfl rfl ?_
    rintro _ K3 ⟨rfl, c3, l3, o3⟩
    simp only [walk, walkL, evOp, quietOp, farOp, nov, gd, rho, putT, wr, Nat.reduceAdd, Nat.reduceSub, Bool.false_eq_true, if_true, if_false, reduceIte, reduceCtorEq, walkM, Int.reduceBEq, Int.reduceBNe, Int.reduceLT, Int.reduceLE, decide_true, decide_false, eq_self, Bool.not_true, Bool.not_false, ↓ev_fa, ↓ev_field, ↓ev_load, ↓ev_store, stO_cells, List.all_cons, List.all_nil, Bool.and_self, Bool.and_true, failV, ta31, new, hget_hset', hset_length, and_false, false_and, and_true, true_and, and_self, Nat.reduceEqDiff, Nat.reduceLT, Nat.lt_irrefl, Nat.not_lt_zero, l3, o3, F.lt, splice, zerosN, fillV, walkB, pureL, V.pure, Nat.reduceMul, Nat.reduceLeDiff, Nat.one_ne_zero, List.take_zero, List.drop_succ_cons, List.drop_zero, List.take_succ_cons, List.replicate_one, List.drop_nil, List.take_nil, Nat.le_refl, Nat.zero_add, Nat.zero_mul, Nat.one_mul, Nat.mul_one]
    exact W.done (EndK.ret (res_cell rfl rfl (hget_same (by first | exact F.lt | assumption | (simp only [hset_length]; first | exact F.lt | assumption))) (by rw [rd36]; rfl)) (conc _ (Ch.fin hn (fun f s h => by simp only [hget_hset', hset_length, F.lt, Nat.ne_of_lt h, false_and, if_false]; exact F.low f s h) (by simp only [hset_length]; exact F.lt) c3)))
  · have h1' : nameE c.as_ = 0 := by simpa using h1
    cases hs : numOf L.names c.name with
    | none =>
      simp only [walk, walkL, evOp, quietOp, farOp, nov, gd, rho, putT, wr, Nat.reduceAdd, Nat.reduceSub, Bool.false_eq_true, if_true, if_false, reduceIte, reduceCtorEq, walkM, Int.reduceBEq, Int.reduceBNe, Int.reduceLT, Int.reduceLE, decide_true, decide_false, eq_self, Bool.not_true, Bool.not_false, ↓ev_fa, ↓ev_field, ↓ev_load, ↓ev_store, stO_cells, List.all_cons, List.all_nil, Bool.and_self, Bool.and_true, Option.isSome_none, ta31, new, hget_hset', hset_length, and_false, false_and, and_true, true_and, and_self, Nat.reduceEqDiff, Nat.reduceLT, Nat.lt_irrefl, Nat.not_lt_zero, splice, zerosN, fillV, walkB, pureL, V.pure, Nat.reduceMul, Nat.reduceLeDiff, Nat.one_ne_zero, List.take_zero, List.drop_succ_cons, List.drop_zero, List.take_succ_cons, List.replicate_one, List.drop_nil, List.take_nil, Nat.le_refl, Nat.zero_add, Nat.zero_mul, Nat.one_mul, Nat.mul_one, F.own, F.lt]
      refine W.call (fin _ (by simp only [hset_length]; exact F.lt) (fun f s h => by simp only [hget_hset', hset_length, F.lt, Nat.ne_of_lt h, false_and, if_false]; exact F.low f s h) (by simp only [hget_hset', hset_length, F.lt, and_self, and_true, and_false, true_and, eq_self, if_true, if_false, Nat.reduceEqDiff, callC]; try rfl) (by simp only [hget_hset', hset_length, F.lt, and_self, and_true, and_false, true_and, eq_self, if_true, if_false, Nat.reduceEqDiff, callC]; try rfl) (by simp only [hget_hset', hset_length, F.lt, and_self, and_true, and_false, true_and, eq_self, if_true, if_false, Nat.reduceEqDiff, callC]; try rfl) _ (by rw [linkE, if_neg (by simpa using h1'), hs])) rfl rfl rfl rfl rfl ?_
      rintro _ K3 ⟨rfl, c3, l3, o3⟩
      simp only [walk, walkL, evOp, quietOp, farOp, nov, gd, rho, putT, wr, Nat.reduceAdd, Nat.reduceSub, Bool.false_eq_true, if_true, if_false, reduceIte, reduceCtorEq, walkM, Int.reduceBEq, Int.reduceBNe, Int.reduceLT, Int.reduceLE, decide_true, decide_false, eq_self, Bool.not_true, Bool.not_false, ↓ev_fa, ↓ev_field, ↓ev_load, ↓ev_store, stO_cells, List.all_cons, List.all_nil, Bool.and_self, Bool.and_true, failV, ta31, new, hget_hset', hset_length, and_false, false_and, and_true, true_and, and_self, Nat.reduceEqDiff, Nat.reduceLT, Nat.lt_irrefl, Nat.not_lt_zero, l3, o3, F.lt, splice, zerosN, fillV, walkB, pureL, V.pure, Nat.reduceMul, Nat.reduceLeDiff, Nat.one_ne_zero, List.take_zero, List.drop_succ_cons, List.drop_zero, List.take_succ_cons, List.replicate_one, List.drop_nil, List.take_nil, Nat.le_refl, Nat.zero_add, Nat.zero_mul, Nat.one_mul, Nat.mul_one]
      exact W.done (EndK.ret (res_cell rfl rfl (hget_same (by first | exact F.lt | assumption | (simp only [hset_length]; first | exact F.lt | assumption))) (by rw [rd36]; rfl)) (conc _ (Ch.fin hn (fun f s h => by simp only [hget_hset', hset_length, F.lt, Nat.ne_of_lt h, false_and, if_false]; exact F.low f s h) (by simp only [hset_length]; exact F.lt) c3)))
    | some x =>
      rw [hs] at hm
      simp only [Option.getD_some] at hm
      subst hm
      simp only [walk, walkL, evOp, quietOp, farOp, nov, gd, rho, putT, wr, Nat.reduceAdd, Nat.reduceSub, Bool.false_eq_true, if_true, if_false, reduceIte, reduceCtorEq, walkM, Int.reduceBEq, Int.reduceBNe, Int.reduceLT, Int.reduceLE, decide_true, decide_false, eq_self, Bool.not_true, Bool.not_false, ↓ev_fa, ↓ev_field, ↓ev_load, ↓ev_store, stO_cells, List.all_cons, List.all_nil, Bool.and_self, Bool.and_true, Option.isSome_some, ta31, new, hget_hset', hset_length, and_false, false_and, and_true, true_and, and_self, Nat.reduceEqDiff, Nat.reduceLT, Nat.lt_irrefl, Nat.not_lt_zero, splice, zerosN, fillV, walkB, pureL, V.pure, Nat.reduceMul, Nat.reduceLeDiff, Nat.one_ne_zero, List.take_zero, List.drop_succ_cons, List.drop_zero, List.take_succ_cons, List.replicate_one, List.drop_nil, List.take_nil, Nat.le_refl, Nat.zero_add, Nat.zero_mul, Nat.one_mul, Nat.mul_one, F.own, F.lt, A.ne, A.get, A.ltK, B.get, B.ltK, lc_0, lc_1, lc_2, lc_3, lc_4, Nat.add_zero, callC, ia_ob hm0.1 hm0.2, lc_kind ho, hk]
      refine W.opsK (by kernel_rfl) ?_
      simp only [walk, walkL, evOp, quietOp, farOp, nov, gd, rho, putT, wr, Nat.reduceAdd, Nat.reduceSub, Bool.false_eq_true, if_true, if_false, reduceIte, reduceCtorEq, walkM, Int.reduceBEq, Int.reduceBNe, Int.reduceLT, Int.reduceLE, decide_true, decide_false, eq_self, Bool.not_true, Bool.not_false, ↓ev_fa, ↓ev_field, ↓ev_load, ↓ev_store, stO_cells, List.all_cons, List.all_nil, Bool.and_self, Bool.and_true]
      refine W.ite (fun h2 => ?_) (fun h2 => ?_)
      · have h2' : ¬ (L.ob x).kind = 1 := by simpa using h2
        simp only [walk, walkL, evOp, quietOp, farOp, nov, gd, rho, putT, wr, Nat.reduceAdd, Nat.reduceSub, Bool.false_eq_true, if_true, if_false, reduceIte, reduceCtorEq, walkM, Int.reduceBEq, Int.reduceBNe, Int.reduceLT, Int.reduceLE, decide_true, decide_false, eq_self, Bool.not_true, Bool.not_false, ↓ev_fa, ↓ev_field, ↓ev_load, ↓ev_store, stO_cells, List.all_cons, List.all_nil, Bool.and_self, Bool.and_true, ta31, new, hget_hset', hset_length, and_false, false_and, and_true, true_and, and_self, Nat.reduceEqDiff, Nat.reduceLT, Nat.lt_irrefl, Nat.not_lt_zero, splice, zerosN, fillV, walkB, pureL, V.pure, Nat.reduceMul, Nat.reduceLeDiff, Nat.one_ne_zero, List.take_zero, List.drop_succ_cons, List.drop_zero, List.take_succ_cons, List.replicate_one, List.drop_nil, List.take_nil, Nat.le_refl, Nat.zero_add, Nat.zero_mul, Nat.one_mul, Nat.mul_one, F.own, F.lt]
        refine W.call (fin _ (by simp only [hset_length]; exact F.lt) (fun f s h => by simp only [hget_hset', hset_length, F.lt, Nat.ne_of_lt h, false_and, if_false]; exact F.low f s h) (by simp only [hget_hset', hset_length, F.lt, and_self, and_true, and_false, true_and, eq_self, if_true, if_false, Nat.reduceEqDiff, callC]; try rfl) (by simp only [hget_hset', hset_length, F.lt, and_self, and_true, and_false, true_and, eq_self, if_true, if_false, Nat.reduceEqDiff, callC]; try rfl) (by simp only [hget_hset', hset_length, F.lt, and_self, and_true, and_false, true_and, eq_self, if_true, if_false, Nat.reduceEqDiff, callC]; try rfl) _ (by rw [linkE, if_neg (by simpa using h1'), hs]; simp only [if_pos h2'])) rfl rfl rfl rfl rfl ?_
        rintro _ K3 ⟨rfl, c3, l3, o3⟩
        simp only [walk, walkL, evOp, quietOp, farOp, nov, gd, rho, putT, wr, Nat.reduceAdd, Nat.reduceSub, Bool.false_eq_true, if_true, if_false, reduceIte, reduceCtorEq, walkM, Int.reduceBEq, Int.reduceBNe, Int.reduceLT, Int.reduceLE, decide_true, decide_false, eq_self, Bool.not_true, Bool.not_false, ↓ev_fa, ↓ev_field, ↓ev_load, ↓ev_store, stO_cells, List.all_cons, List.all_nil, Bool.and_self, Bool.and_true, failV, ta31, new, hget_hset', hset_length, and_false, false_and, and_true, true_and, and_self, Nat.reduceEqDiff, Nat.reduceLT, Nat.lt_irrefl, Nat.not_lt_zero, l3, o3, F.lt, splice, zerosN, fillV, walkB, pureL, V.pure, Nat.reduceMul, Nat.reduceLeDiff, Nat.one_ne_zero, List.take_zero, List.drop_succ_cons, List.drop_zero, List.take_succ_cons, List.replicate_one, List.drop_nil, List.take_nil, Nat.le_refl, Nat.zero_add, Nat.zero_mul, Nat.one_mul, Nat.mul_one]
        exact W.done (EndK.ret (res_cell rfl rfl (hget_same (by first | exact F.lt | assumption | (simp only [hset_length]; first | exact F.lt | assumption))) (by rw [rd36]; rfl)) (conc _ (Ch.fin hn (fun f s h => by simp only [hget_hset', hset_length, F.lt, Nat.ne_of_lt h, false_and, if_false]; exact F.low f s h) (by simp only [hset_length]; exact F.lt) c3)))
      · have h2' : (L.ob x).kind = 1 := by simpa using h2
        simp only [walk, walkL, evOp, quietOp, farOp, nov, gd, rho, putT, wr, Nat.reduceAdd, Nat.reduceSub, Bool.false_eq_true, if_true, if_false, reduceIte, reduceCtorEq, walkM, Int.reduceBEq, Int.reduceBNe, Int.reduceLT, Int.reduceLE, decide_true, decide_false, eq_self, Bool.not_true, Bool.not_false, ↓ev_fa, ↓ev_field, ↓ev_load, ↓ev_store, stO_cells, List.all_cons, List.all_nil, Bool.and_self, Bool.and_true, ta31, new, hget_hset', hset_length, and_false, false_and, and_true, true_and, and_self, Nat.reduceEqDiff, Nat.reduceLT, Nat.lt_irrefl, Nat.not_lt_zero, splice, zerosN, fillV, walkB, pureL, V.pure, Nat.reduceMul, Nat.reduceLeDiff, Nat.one_ne_zero, List.take_zero, List.drop_succ_cons, List.drop_zero, List.take_succ_cons, List.replicate_one, List.drop_nil, List.take_nil, Nat.le_refl, Nat.zero_add, Nat.zero_mul, Nat.one_mul, Nat.mul_one, F.own, F.lt, A.get, A.ltK, B.get, B.ltK, lc_0, lc_1, lc_2, lc_3, lc_4, Nat.add_zero, callC]
        refine W.call (room_cr _ a L l bs clk (hL.low (by rw [← hn]; exact (fun f s h => by simp only [hget_hset', hset_length, F.lt, Nat.ne_of_lt h, false_and, if_false]; exact F.low f s h))) c.as_) rfl rfl rfl rfl rfl ?_
        rintro _ J ⟨rfl, cj⟩
        have lj : n < J.length := cj.lt (by simp only [hset_length]; exact F.lt)
        have lowj : ∀ f s, f < n → hget J f s = hget H f s := fun f s h => by
          rw [cj.get f s (by simp only [hset_length]; have := F.lt; omega)]
          simp only [hget_hset', hset_length, F.lt, Nat.ne_of_lt h, false_and, if_false]; exact F.low f s h
        have oj := fun s => cj.own (s := s) (f := n) (by simp only [hset_length]; exact F.lt) (by simp)
        simp only [walk, walkL, evOp, quietOp, farOp, nov, gd, rho, putT, wr, Nat.reduceAdd, Nat.reduceSub, Bool.false_eq_true, if_true, if_false, reduceIte, reduceCtorEq, walkM, Int.reduceBEq, Int.reduceBNe, Int.reduceLT, Int.reduceLE, decide_true, decide_false, eq_self, Bool.not_true, Bool.not_false, ↓ev_fa, ↓ev_field, ↓ev_load, ↓ev_store, stO_cells, List.all_cons, List.all_nil, Bool.and_self, Bool.and_true, ta31, new, hget_hset', hset_length, and_false, false_and, and_true, true_and, and_self, Nat.reduceEqDiff, Nat.reduceLT, Nat.lt_irrefl, Nat.not_lt_zero, splice, zerosN, fillV, walkB, pureL, V.pure, Nat.reduceMul, Nat.reduceLeDiff, Nat.one_ne_zero, List.take_zero, List.drop_succ_cons, List.drop_zero, List.take_succ_cons, List.replicate_one, List.drop_nil, List.take_nil, Nat.le_refl, Nat.zero_add, Nat.zero_mul, Nat.one_mul, Nat.mul_one, F.own, F.lt, A.get, A.ltK, B.get, B.ltK, lc_0, lc_1, lc_2, lc_3, lc_4, Nat.add_zero, callC, lj, oj]
        refine W.call (fin _ lj lowj ((oj 6).trans (by simp only [hget_hset', hset_length, F.lt, and_self, and_true, and_false, true_and, eq_self, if_true, if_false, Nat.reduceEqDiff, callC]; try rfl)) ((oj 2).trans (by simp only [hget_hset', hset_length, F.lt, and_self, and_true, and_false, true_and, eq_self, if_true, if_false, Nat.reduceEqDiff, callC]; try rfl)) ((oj 3).trans (by simp only [hget_hset', hset_length, F.lt, and_self, and_true, and_false, true_and, eq_self, if_true, if_false, Nat.reduceEqDiff, callC]; try rfl)) _ (by rw [linkE, if_neg (by simpa using h1'), hs]; simp only [h2', ne_eq, not_true, if_false])) rfl rfl rfl rfl rfl ?_
        rintro _ K3 ⟨rfl, c3, l3, o3⟩
        simp only [walk, walkL, evOp, quietOp, farOp, nov, gd, rho, putT, wr, Nat.reduceAdd, Nat.reduceSub, Bool.false_eq_true, if_true, if_false, reduceIte, reduceCtorEq, walkM, Int.reduceBEq, Int.reduceBNe, Int.reduceLT, Int.reduceLE, decide_true, decide_false, eq_self, Bool.not_true, Bool.not_false, ↓ev_fa, ↓ev_field, ↓ev_load, ↓ev_store, stO_cells, List.all_cons, List.all_nil, Bool.and_self, Bool.and_true, failV, ta31, new, hget_hset', hset_length, and_false, false_and, and_true, true_and, and_self, Nat.reduceEqDiff, Nat.reduceLT, Nat.lt_irrefl, Nat.not_lt_zero, l3, o3, oj, F.lt, splice, zerosN, fillV, walkB, pureL, V.pure, Nat.reduceMul, Nat.reduceLeDiff, Nat.one_ne_zero, List.take_zero, List.drop_succ_cons, List.drop_zero, List.take_succ_cons, List.replicate_one, List.drop_nil, List.take_nil, Nat.le_refl, Nat.zero_add, Nat.zero_mul, Nat.one_mul, Nat.mul_one]
        exact W.done (EndK.ret (res_cell rfl rfl (hget_same (by first | exact F.lt | assumption | (simp only [hset_length]; first | exact F.lt | assumption))) (by rw [rd36]; rfl)) (conc _ (Ch.fin hn lowj lj c3)))
end Go.Proofs.Ytebbgmeomkjibaa
end
