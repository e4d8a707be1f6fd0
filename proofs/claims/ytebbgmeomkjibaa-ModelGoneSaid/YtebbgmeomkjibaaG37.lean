/- This file holds in one the texts O11, O12; each says at its head what it proves. -/
import Derived.Test.YtebbgmeomkjibaaG36
set_option linter.unusedSimpArgs false
set_option linter.unusedVariables false
section
/- model: read, stat, list. -/
set_option maxRecDepth 100000
namespace Go.Proofs.Ytebbgmeomkjibaa
open Go.AM Go.Mod

attribute [local irreducible] U W lineC

theorem part_eq (l : Bytes) (c b : Nat) : (l.drop (min c l.length)).take (min (min c l.length + b) l.length - min c l.length) = (l.drop c).take b := by
  by_cases h : c ≤ l.length
  · rw [Nat.min_eq_left h]
    by_cases h2 : c + b ≤ l.length
    · rw [Nat.min_eq_left h2, Nat.add_sub_cancel_left]
    · rw [Nat.min_eq_right (by omega), List.take_of_length_le (by rw [List.length_drop]; omega), List.take_of_length_le (by rw [List.length_drop]; omega)]
  · rw [List.drop_of_length_le (by omega : l.length ≤ min c l.length), List.drop_of_length_le (by omega : l.length ≤ c)]; simp

theorem read_l : LSpec 34 MLine.read := by
  rintro H a L c dv ok ⟨l, bs, clk, hL⟩ hc
  refine cr_of Try.func34 rfl ?_
  intro n K hn F
  have A := F.at_ hn hL.cells
  have B := F.at_ hn hL.names
  have sdv := IsSl.scalar hc.data
  have hm0 := follow_range ok 9 c.name
  have fc := fun K2 (low : ∀ f s, f < n → hget K2 f s = hget H f s) => follow_cr K2 a L ok l bs clk (hL.low (by rw [← hn]; exact low)) c.name
  have hw : L.read c = if !inR c.b || !inR c.c then (L, fail 2) else if (L.follow 9 c.name).2 ≠ 0 then (L, fail (L.follow 9 c.name).2) else (L, { fail 0 with data := partB (L.ob (L.follow 9 c.name).1).data c.c c.b }) := rfl
  generalize hfw : L.follow 9 c.name = fw at *
  obtain ⟨m, e⟩ := fw
  simp only at hm0 hw
  obtain ⟨o, ho, hk, hlk, hd⟩ := hL.obs.at_ (ok.at_ hm0.1 hm0.2)
  have bad : ∀ (K2 : Heap) (x : Int), L.read c = (L, fail x) → Ch H K2 [] → RepV (failV x) (L.read c).2 ∧ LineIn K2 a (L.read c).1 ∧ Rest H K2 a := by
    intro K2 x hx hch
    rw [hx]
    exact ⟨rep_fail x, line_same hL hch⟩
  simp only [walk, walkL, evOp, quietOp, farOp, nov, gd, rho, putT, wr, Nat.reduceAdd, Nat.reduceSub, Bool.false_eq_true, if_true, if_false, reduceIte, reduceCtorEq, walkM, Int.reduceBEq, Int.reduceBNe, Int.reduceLT, Int.reduceLE, decide_true, decide_false, eq_self, Bool.not_true, Bool.not_false, ↓ev_fa, ↓ev_field, ↓ev_load, ↓ev_store, stO_cells, List.all_cons, List.all_nil, Bool.and_self, Bool.and_true, Try.ntmps34, ta34, new, hget_hset', hset_length, and_false, false_and, and_true, true_and, and_self, Nat.reduceEqDiff, Nat.reduceLT, Nat.lt_irrefl, Nat.not_lt_zero, splice, zerosN, fillV, walkB, pureL, V.pure, Nat.reduceMul, Nat.reduceLeDiff, Nat.one_ne_zero, List.take_zero, List.drop_succ_cons, List.drop_zero, List.take_succ_cons, List.replicate_one, List.drop_nil, List.take_nil, Nat.le_refl, Nat.zero_add, Nat.zero_mul, Nat.one_mul, Nat.mul_one, F.own, F.lt, callC, sdv]
  refine W.pcall (in_fz c.b) rfl rfl rfl ?_
  rintro _ rfl
  simp only [walk, walkL, evOp, quietOp, farOp, nov, gd, rho, putT, wr, Nat.reduceAdd, Nat.reduceSub, Bool.false_eq_true, if_true, if_false, reduceIte, reduceCtorEq, walkM, Int.reduceBEq, Int.reduceBNe, Int.reduceLT, Int.reduceLE, decide_true, decide_false, eq_self, Bool.not_true, Bool.not_false, ↓ev_fa, ↓ev_field, ↓ev_load, ↓ev_store, stO_cells, List.all_cons, List.all_nil, Bool.and_self, Bool.and_true]
  refine W.guardF (fun h1 => ?_) (fun h1 => ?_)
  · have h1' : inR c.b = true := by simpa using h1
    simp only [walk, walkL, evOp, quietOp, farOp, nov, gd, rho, putT, wr, Nat.reduceAdd, Nat.reduceSub, Bool.false_eq_true, if_true, if_false, reduceIte, reduceCtorEq, walkM, Int.reduceBEq, Int.reduceBNe, Int.reduceLT, Int.reduceLE, decide_true, decide_false, eq_self, Bool.not_true, Bool.not_false, ↓ev_fa, ↓ev_field, ↓ev_load, ↓ev_store, stO_cells, List.all_cons, List.all_nil, Bool.and_self, Bool.and_true, h1', ta34, new, hget_hset', hset_length, and_false, false_and, and_true, true_and, and_self, Nat.reduceEqDiff, Nat.reduceLT, Nat.lt_irrefl, Nat.not_lt_zero, splice, zerosN, fillV, walkB, pureL, V.pure, Nat.reduceMul, Nat.reduceLeDiff, Nat.one_ne_zero, List.take_zero, List.drop_succ_cons, List.drop_zero, List.take_succ_cons, List.replicate_one, List.drop_nil, List.take_nil, Nat.le_refl, Nat.zero_add, Nat.zero_mul, Nat.one_mul, Nat.mul_one, F.own, F.lt]
    refine W.pcall (in_fz c.c) rfl rfl rfl ?_
    rintro _ rfl
    simp only [walk, walkL, evOp, quietOp, farOp, nov, gd, rho, putT, wr, Nat.reduceAdd, Nat.reduceSub, Bool.false_eq_true, if_true, if_false, reduceIte, reduceCtorEq, walkM, Int.reduceBEq, Int.reduceBNe, Int.reduceLT, Int.reduceLE, decide_true, decide_false, eq_self, Bool.not_true, Bool.not_false, ↓ev_fa, ↓ev_field, ↓ev_load, ↓ev_store, stO_cells, List.all_cons, List.all_nil, Bool.and_self, Bool.and_true, h1']
    refine W.ite (fun h2 => ?_) (fun h2 => ?_)
    · have h2' : inR c.c = false := by simpa using h2
      rw [h2'] at hw
      simp only [walk, walkL, evOp, quietOp, farOp, nov, gd, rho, putT, wr, Nat.reduceAdd, Nat.reduceSub, Bool.false_eq_true, if_true, if_false, reduceIte, reduceCtorEq, walkM, Int.reduceBEq, Int.reduceBNe, Int.reduceLT, Int.reduceLE, decide_true, decide_false, eq_self, Bool.not_true, Bool.not_false, ↓ev_fa, ↓ev_field, ↓ev_load, ↓ev_store, stO_cells, List.all_cons, List.all_nil, Bool.and_self, Bool.and_true]
      refine W.pcall (fails_fz 2) rfl rfl rfl ?_
      rintro _ rfl
      simp only [walk, walkL, evOp, quietOp, farOp, nov, gd, rho, putT, wr, Nat.reduceAdd, Nat.reduceSub, Bool.false_eq_true, if_true, if_false, reduceIte, reduceCtorEq, walkM, Int.reduceBEq, Int.reduceBNe, Int.reduceLT, Int.reduceLE, decide_true, decide_false, eq_self, Bool.not_true, Bool.not_false, ↓ev_fa, ↓ev_field, ↓ev_load, ↓ev_store, stO_cells, List.all_cons, List.all_nil, Bool.and_self, Bool.and_true, failV, ta34, new, hget_hset', hset_length, and_false, false_and, and_true, true_and, and_self, Nat.reduceEqDiff, Nat.reduceLT, Nat.lt_irrefl, Nat.not_lt_zero, F.lt, splice, zerosN, fillV, walkB, pureL, V.pure, Nat.reduceMul, Nat.reduceLeDiff, Nat.one_ne_zero, List.take_zero, List.drop_succ_cons, List.drop_zero, List.take_succ_cons, List.replicate_one, List.drop_nil, List.take_nil, Nat.le_refl, Nat.zero_add, Nat.zero_mul, Nat.one_mul, Nat.mul_one]
      refine W.done (EndK.ret (res_cell rfl rfl (hget_same (by first | exact F.lt | assumption | (simp only [hset_length]; first | exact F.lt | assumption))) (by rw [rd36]; rfl)) (bad _ 2 (by rw [hw]; simp) (F.ch hn (by first | rfl | simp only [hset_length]) (fun f' s' h => by first | rfl | simp only [hget_hset', hset_length, F.lt, Nat.ne_of_lt h, false_and, if_false, AM.lk, *, -hn]))))
    · have h2' : inR c.c = true := by simpa using h2
      rw [h1', h2'] at hw
      simp only [Bool.not_true, Bool.or_self, Bool.false_eq_true, if_false] at hw
      have hrb : 0 ≤ c.b ∧ c.b ≤ 3840 := by simpa [inR] using h1'
      have hrc : 0 ≤ c.c ∧ c.c ≤ 3840 := by simpa [inR] using h2'
      simp only [walk, walkL, evOp, quietOp, farOp, nov, gd, rho, putT, wr, Nat.reduceAdd, Nat.reduceSub, Bool.false_eq_true, if_true, if_false, reduceIte, reduceCtorEq, walkM, Int.reduceBEq, Int.reduceBNe, Int.reduceLT, Int.reduceLE, decide_true, decide_false, eq_self, Bool.not_true, Bool.not_false, ↓ev_fa, ↓ev_field, ↓ev_load, ↓ev_store, stO_cells, List.all_cons, List.all_nil, Bool.and_self, Bool.and_true, ta34, new, hget_hset', hset_length, and_false, false_and, and_true, true_and, and_self, Nat.reduceEqDiff, Nat.reduceLT, Nat.lt_irrefl, Nat.not_lt_zero, zerosN, fillV, walkB, pureL, V.pure, Nat.reduceMul, Nat.reduceLeDiff, Nat.one_ne_zero, List.take_zero, List.drop_succ_cons, List.drop_zero, List.take_succ_cons, List.replicate_one, List.drop_nil, List.take_nil, Nat.le_refl, Nat.zero_add, Nat.zero_mul, Nat.one_mul, Nat.mul_one, A.get, A.ltK, B.get, B.ltK, lc_0, lc_1, lc_2, lc_3, lc_4, Nat.add_zero, callC, F.lt]
      refine W.call (fc _ (fun f s h => by simp only [hget_hset', hset_length, F.lt, Nat.ne_of_lt h, false_and, if_false]; exact F.low f s h)) rfl rfl rfl rfl rfl ?_
      rintro _ J ⟨rfl, cj⟩
      have lj : n < J.length := cj.lt (by simp only [hset_length]; exact F.lt)
      have lowj : ∀ f s, f < n → hget J f s = hget H f s := fun f s h => by
        rw [cj.get f s (by simp only [hset_length]; have := F.lt; omega)]
        simp only [hget_hset', hset_length, F.lt, Nat.ne_of_lt h, false_and, if_false, lk]; exact F.low f s h
      have oj := fun s => cj.own (s := s) (f := n) (by simp only [hset_length]; exact F.lt) (by simp)
      have chj : ∀ v x, Ch H (popF n v (hset J n 4 x)) [] := fun v x => Ch.fin hn lowj lj (Ch.refl J)
      have aj : hget J a.f a.s = _ := (lowj _ _ A.lt).trans hL.cells
      simp only [walk, walkL, evOp, quietOp, farOp, nov, gd, rho, putT, wr, Nat.reduceAdd, Nat.reduceSub, Bool.false_eq_true, if_true, if_false, reduceIte, reduceCtorEq, walkM, Int.reduceBEq, Int.reduceBNe, Int.reduceLT, Int.reduceLE, decide_true, decide_false, eq_self, Bool.not_true, Bool.not_false, ↓ev_fa, ↓ev_field, ↓ev_load, ↓ev_store, stO_cells, List.all_cons, List.all_nil, Bool.and_self, Bool.and_true, ta34, new, hget_hset', hset_length, and_false, false_and, and_true, true_and, and_self, Nat.reduceEqDiff, Nat.reduceLT, Nat.lt_irrefl, Nat.not_lt_zero, splice, zerosN, fillV, walkB, pureL, V.pure, Nat.reduceMul, Nat.reduceLeDiff, Nat.one_ne_zero, List.take_zero, List.drop_succ_cons, List.drop_zero, List.take_succ_cons, List.replicate_one, List.drop_nil, List.take_nil, Nat.le_refl, Nat.zero_add, Nat.zero_mul, Nat.one_mul, Nat.mul_one, F.own, F.lt, A.get, A.ltK, B.get, B.ltK, lc_0, lc_1, lc_2, lc_3, lc_4, Nat.add_zero, callC, lj, oj]
      refine W.ite (fun h3 => ?_) (fun h3 => ?_)
      · have h3' : e ≠ 0 := by simpa using h3
        rw [if_pos h3'] at hw
        simp only [walk, walkL, evOp, quietOp, farOp, nov, gd, rho, putT, wr, Nat.reduceAdd, Nat.reduceSub, Bool.false_eq_true, if_true, if_false, reduceIte, reduceCtorEq, walkM, Int.reduceBEq, Int.reduceBNe, Int.reduceLT, Int.reduceLE, decide_true, decide_false, eq_self, Bool.not_true, Bool.not_false, ↓ev_fa, ↓ev_field, ↓ev_load, ↓ev_store, stO_cells, List.all_cons, List.all_nil, Bool.and_self, Bool.and_true]
        refine W.pcall (fails_fz e) rfl rfl rfl ?_
        rintro _ rfl
        simp only [walk, walkL, evOp, quietOp, farOp, nov, gd, rho, putT, wr, Nat.reduceAdd, Nat.reduceSub, Bool.false_eq_true, if_true, if_false, reduceIte, reduceCtorEq, walkM, Int.reduceBEq, Int.reduceBNe, Int.reduceLT, Int.reduceLE, decide_true, decide_false, eq_self, Bool.not_true, Bool.not_false, ↓ev_fa, ↓ev_field, ↓ev_load, ↓ev_store, stO_cells, List.all_cons, List.all_nil, Bool.and_self, Bool.and_true, failV, ta34, new, hget_hset', hset_length, and_false, false_and, and_true, true_and, and_self, Nat.reduceEqDiff, Nat.reduceLT, Nat.lt_irrefl, Nat.not_lt_zero, lj, oj, F.lt, splice, zerosN, fillV, walkB, pureL, V.pure, Nat.reduceMul, Nat.reduceLeDiff, Nat.one_ne_zero, List.take_zero, List.drop_succ_cons, List.drop_zero, List.take_succ_cons, List.replicate_one, List.drop_nil, List.take_nil, Nat.le_refl, Nat.zero_add, Nat.zero_mul, Nat.one_mul, Nat.mul_one]
        exact W.done (EndK.ret (res_cell rfl rfl (hget_same (by first | exact F.lt | assumption | (simp only [hset_length]; first | exact F.lt | assumption))) (by rw [rd36]; rfl)) (bad _ e hw (chj _ _)))
      · have h3' : ¬ (e ≠ 0) := by simpa using h3
        rw [if_neg h3'] at hw
        have ln2 := hd.len Try.underlying26
        have hdl := ok.dat m
        generalize hD : (L.ob m).data = D at *
        have mn1 : (if (D.length : Int) < c.c then (D.length : Int) else c.c) = ((min c.c.toNat D.length : Nat) : Int) := by split <;> omega
        have w1 : (IntKind.i64).wrap (((min c.c.toNat D.length : Nat) : Int) + c.b) = ((min c.c.toNat D.length + c.b.toNat : Nat) : Int) := by rw [wrap_i64] <;> omega
        have mn2 : (if (D.length : Int) < ((min c.c.toNat D.length + c.b.toNat : Nat) : Int) then (D.length : Int) else ((min c.c.toNat D.length + c.b.toNat : Nat) : Int)) = ((min (min c.c.toNat D.length + c.b.toNat) D.length : Nat) : Int) := by split <;> omega
        obtain ⟨w, hw1, hw2⟩ := IsBytes.cut (P := Try.prog) (u := 26) (e := 5) Try.underlying26 sz5 hd (some ((min c.c.toNat D.length : Nat) : Int)) (some ((min (min c.c.toNat D.length + c.b.toNat) D.length : Nat) : Int)) (by simp only [Option.getD_some]; omega) (by simp only [Option.getD_some]; omega) (by simp only [Option.getD_some]; omega)
        simp only [Option.map_some, Option.getD_some, Int.toNat_natCast, part_eq] at hw1 hw2
        simp only [walk, walkL, evOp, quietOp, farOp, nov, gd, rho, putT, wr, Nat.reduceAdd, Nat.reduceSub, Bool.false_eq_true, if_true, if_false, reduceIte, reduceCtorEq, walkM, Int.reduceBEq, Int.reduceBNe, Int.reduceLT, Int.reduceLE, decide_true, decide_false, eq_self, Bool.not_true, Bool.not_false, ↓ev_fa, ↓ev_field, ↓ev_load, ↓ev_store, stO_cells, List.all_cons, List.all_nil, Bool.and_self, Bool.and_true, ta34, new, hget_hset', hset_length, and_false, false_and, and_true, true_and, and_self, Nat.reduceEqDiff, Nat.reduceLT, Nat.lt_irrefl, Nat.not_lt_zero, zerosN, fillV, walkB, pureL, V.pure, Nat.reduceMul, Nat.reduceLeDiff, Nat.one_ne_zero, List.take_zero, List.drop_succ_cons, List.drop_zero, List.take_succ_cons, List.replicate_one, List.drop_nil, List.take_nil, Nat.le_refl, Nat.zero_add, Nat.zero_mul, Nat.one_mul, Nat.mul_one, A.get, A.ltK, B.get, B.ltK, lc_0, lc_1, lc_2, lc_3, lc_4, Nat.add_zero, callC, lj, oj, F.lt, aj, ia_ob hm0.1 hm0.2, lc_data ho, ln2, mn1, w1, mn2, ↓hw1]
        refine W.lcall (clone_fn w _ hw2 (by rw [List.length_take, List.length_drop]; omega)) rfl rfl rfl rfl (frzL_cons (hw2.frz _) rfl) ?_
        intro r hr
        have cr := IsSl.cells hr
        have sr := IsSl.scalar hr
        simp only [walk, walkL, evOp, quietOp, farOp, nov, gd, rho, putT, wr, Nat.reduceAdd, Nat.reduceSub, Bool.false_eq_true, if_true, if_false, reduceIte, reduceCtorEq, walkM, Int.reduceBEq, Int.reduceBNe, Int.reduceLT, Int.reduceLE, decide_true, decide_false, eq_self, Bool.not_true, Bool.not_false, ↓ev_fa, ↓ev_field, ↓ev_load, ↓ev_store, stO_cells, List.all_cons, List.all_nil, Bool.and_self, Bool.and_true, ta34, new, hget_hset', hset_length, and_false, false_and, and_true, true_and, and_self, Nat.reduceEqDiff, Nat.reduceLT, Nat.lt_irrefl, Nat.not_lt_zero, splice, zerosN, fillV, walkB, pureL, V.pure, Nat.reduceMul, Nat.reduceLeDiff, Nat.one_ne_zero, List.take_zero, List.drop_succ_cons, List.drop_zero, List.take_succ_cons, List.replicate_one, List.drop_nil, List.take_nil, Nat.le_refl, Nat.zero_add, Nat.zero_mul, Nat.one_mul, Nat.mul_one, lj, oj, F.lt, cr, sr]
        refine W.done (EndK.ret (res_cell rfl rfl (hget_same (by first | exact F.lt | assumption | (simp only [hset_length]; first | exact F.lt | assumption))) (by rw [rd36]; rfl)) ?_)
        rw [hw]
        exact ⟨⟨r, .nilslice, .nilslice, rfl, hr, IsSl.nil, IsInts.nil⟩, line_same hL (chj _ _)⟩
  · have h1' : inR c.b = false := by simpa using h1
    rw [h1'] at hw
    simp only [walk, walkL, evOp, quietOp, farOp, nov, gd, rho, putT, wr, Nat.reduceAdd, Nat.reduceSub, Bool.false_eq_true, if_true, if_false, reduceIte, reduceCtorEq, walkM, Int.reduceBEq, Int.reduceBNe, Int.reduceLT, Int.reduceLE, decide_true, decide_false, eq_self, Bool.not_true, Bool.not_false, ↓ev_fa, ↓ev_field, ↓ev_load, ↓ev_store, stO_cells, List.all_cons, List.all_nil, Bool.and_self, Bool.and_true, h1']
    refine W.pcall (fails_fz 2) rfl rfl rfl ?_
    rintro _ rfl
    simp only [walk, walkL, evOp, quietOp, farOp, nov, gd, rho, putT, wr, Nat.reduceAdd, Nat.reduceSub, Bool.false_eq_true, if_true, if_false, reduceIte, reduceCtorEq, walkM, Int.reduceBEq, Int.reduceBNe, Int.reduceLT, Int.reduceLE, decide_true, decide_false, eq_self, Bool.not_true, Bool.not_false, ↓ev_fa, ↓ev_field, ↓ev_load, ↓ev_store, stO_cells, List.all_cons, List.all_nil, Bool.and_self, Bool.and_true, failV, ta34, new, hget_hset', hset_length, and_false, false_and, and_true, true_and, and_self, Nat.reduceEqDiff, Nat.reduceLT, Nat.lt_irrefl, Nat.not_lt_zero, F.lt, splice, zerosN, fillV, walkB, pureL, V.pure, Nat.reduceMul, Nat.reduceLeDiff, Nat.one_ne_zero, List.take_zero, List.drop_succ_cons, List.drop_zero, List.take_succ_cons, List.replicate_one, List.drop_nil, List.take_nil, Nat.le_refl, Nat.zero_add, Nat.zero_mul, Nat.one_mul, Nat.mul_one]
    exact W.done (EndK.ret (res_cell rfl rfl (hget_same (by first | exact F.lt | assumption | (simp only [hset_length]; first | exact F.lt | assumption))) (by rw [rd36]; rfl)) (bad _ 2 (by rw [hw]; simp) (F.ch hn (by first | rfl | simp only [hset_length]) (fun f' s' h => by first | rfl | simp only [hget_hset', hset_length, F.lt, Nat.ne_of_lt h, false_and, if_false, AM.lk, *, -hn]))))
end Go.Proofs.Ytebbgmeomkjibaa
end
section
/- model: stat, list. -/
set_option maxRecDepth 100000
namespace Go.Proofs.Ytebbgmeomkjibaa
open Go.AM Go.Mod

attribute [local irreducible] U W lineC

theorem W.prim {P : Program} {pol : Pol} {L : MBody → Body} {fn fr : Nat} {t : List V} {H : Heap} {d : Option Nat} {k k' : List It} {Q : Ex → List V → Heap → Prop} {f : FuncId} {args : List V} {g : Nat → Option Nat → Get → List V → Option (V × Option (Nat × Nat × O))} {v : V}
    (hp : pol.prim f = some g) (hg : g fr d (hget H) args = some (v, none)) (h2 : W (U P pol (callW P pol) L fn fr k .normal (putT t d v) H) Q) : W (UC P pol (callW P pol) L fn fr (callOp pol (callW P pol) fn fr d f args H) d k k' t) Q := by
  have e : callOp pol (callW P pol) fn fr d f args H = some (.ret v, H) := by
    simp only [callOp, hp, hg, Option.map_some]; rfl
  rw [e]; exact h2

theorem keys_cr (H : Heap) (nf ns : Nat) : CR Try.prog pol 59 [.map nf ns] H fun v H' => v = .func (.func 67) [] [.ptr H.length 1 0] ∧ hget H' H.length 1 = some (.cells [.map nf ns]) ∧ Ch H H' [] := by
  refine cr_of Try.func59 rfl ?_
  intro n K hn F
  simp only [walk, walkL, evOp, quietOp, farOp, nov, gd, rho, putT, wr, Nat.reduceAdd, Nat.reduceSub, Bool.false_eq_true, if_true, if_false, reduceIte, reduceCtorEq, walkM, Int.reduceBEq, Int.reduceBNe, Int.reduceLT, Int.reduceLE, decide_true, decide_false, eq_self, Bool.not_true, Bool.not_false, ↓ev_fa, ↓ev_field, ↓ev_load, ↓ev_store, stO_cells, List.all_cons, List.all_nil, Bool.and_self, Bool.and_true, Try.ntmps59, ta59, new, hget_hset', hset_length, and_false, false_and, and_true, true_and, and_self, Nat.reduceEqDiff, Nat.reduceLT, Nat.lt_irrefl, Nat.not_lt_zero, zerosN, fillV, walkB, pureL, V.pure, Nat.reduceMul, Nat.reduceLeDiff, Nat.one_ne_zero, List.take_zero, List.drop_succ_cons, List.drop_zero, List.take_succ_cons, List.replicate_one, List.drop_nil, List.take_nil, Nat.le_refl, Nat.zero_add, Nat.zero_mul, Nat.one_mul, Nat.mul_one, F.own, F.lt]
  refine W.done (EndK.ret rfl ?_)
  rw [popF_keep (by simp only [List.getD_cons_succ, List.getD_cons_zero, V.refs, refsL]; simp)]
  refine ⟨by rw [← hn]; rfl, by rw [← hn]; exact hget_same F.lt, by simp only [hset_length]; have := F.len; omega, fun f' s' h => ?_⟩
  rw [hget_frame F.lt (by omega), F.low f' s' (by omega)]; rfl

theorem keysStr_names : ∀ l : List (Bytes × Int), keysStr (encN l) = some (l.map (·.1))
  | [] => rfl
  | p :: l => by
    have := keysStr_names l
    simp only [encN, List.map_cons] at this ⊢
    simp only [keysStr, this]

theorem isSl_sorted (l : List V) : IsSl 1 (sortedV l) l l.length := by
  unfold sortedV
  cases l with
  | nil => exact IsSl.nil
  | cons x l => exact IsSl.mk (by simp)

theorem list_l : LSpec 38 fun L _ => MLine.list L := by
  rintro H a L c dv ok ⟨l, bs, clk, hL⟩ hc
  refine cr_of Try.func38 rfl ?_
  intro n K hn F
  have A := F.at_ hn hL.cells
  have B := F.at_ hn hL.names
  have sdv := IsSl.scalar hc.data
  simp only [walk, walkL, evOp, quietOp, farOp, nov, gd, rho, putT, wr, Nat.reduceAdd, Nat.reduceSub, Bool.false_eq_true, if_true, if_false, reduceIte, reduceCtorEq, walkM, Int.reduceBEq, Int.reduceBNe, Int.reduceLT, Int.reduceLE, decide_true, decide_false, eq_self, Bool.not_true, Bool.not_false, ↓ev_fa, ↓ev_field, ↓ev_load, ↓ev_store, stO_cells, List.all_cons, List.all_nil, Bool.and_self, Bool.and_true, Try.ntmps38, ta38, new, hget_hset', hset_length, and_false, false_and, and_true, true_and, and_self, Nat.reduceEqDiff, Nat.reduceLT, Nat.lt_irrefl, Nat.not_lt_zero, splice, zerosN, fillV, walkB, pureL, V.pure, Nat.reduceMul, Nat.reduceLeDiff, Nat.one_ne_zero, List.take_zero, List.drop_succ_cons, List.drop_zero, List.take_succ_cons, List.replicate_one, List.drop_nil, List.take_nil, Nat.le_refl, Nat.zero_add, Nat.zero_mul, Nat.one_mul, Nat.mul_one, A.get, A.ltK, B.get, B.ltK, lc_0, lc_1, lc_2, lc_3, lc_4, Nat.add_zero, callC, A.ne, F.own, F.lt, sdv]
  refine W.call (keys_cr _ a.nf a.ns) rfl rfl rfl rfl rfl ?_
  rintro _ J ⟨rfl, g1, cj⟩
  generalize hq : List.length _ = q at g1
  have hq1 : q = n + 1 := by rw [← hq]; simp only [hset_length]; exact F.len
  have lj : n < J.length := cj.lt (by simp only [hset_length]; exact F.lt)
  have lowj : ∀ f s, f < n → hget J f s = hget H f s := fun f s h => by
    rw [cj.get f s (by simp only [hset_length]; have := F.lt; omega)]
    simp only [hget_hset', hset_length, F.lt, Nat.ne_of_lt h, false_and, if_false, lk]; exact F.low f s h
  have oj := fun s => cj.own (s := s) (f := n) (by simp only [hset_length]; exact F.lt) (by simp)
  have bj : hget J a.nf a.ns = _ := (lowj _ _ B.lt).trans hL.names
  have ps : primSortStr 67 n (some 10) (hget J) [.func (.func 67) [] [.ptr q 1 0]] = some (sortedV ((sortB (L.names.map (·.1))).map .str), none) := by
    simp only [primSortStr, if_true, g1, bj, keysStr_names]
    have few := ok.few
    have sh : ∀ x ∈ L.names.map (·.1), x.length ≤ 1048576 := fun x hx => by
      obtain ⟨p, hp, rfl⟩ := List.mem_map.1 hx
      have := ok.short p hp; omega
    have cnt : (L.names.map (·.1)).length ≤ 1048576 := by rw [List.length_map]; omega
    rw [if_pos ⟨ok.uniq, hL.born.uniq, hL.born.lt, sh, cnt⟩]
  simp only [walk, walkL, evOp, quietOp, farOp, nov, gd, rho, putT, wr, Nat.reduceAdd, Nat.reduceSub, Bool.false_eq_true, if_true, if_false, reduceIte, reduceCtorEq, walkM, Int.reduceBEq, Int.reduceBNe, Int.reduceLT, Int.reduceLE, decide_true, decide_false, eq_self, Bool.not_true, Bool.not_false, ↓ev_fa, ↓ev_field, ↓ev_load, ↓ev_store, stO_cells, List.all_cons, List.all_nil, Bool.and_self, Bool.and_true, hq]
  refine W.prim (g := primSortStr 67) rfl ps ?_
  have sl := isSl_sorted ((sortB (L.names.map (·.1))).map .str)
  have scl := IsSl.scalar sl
  have cl := IsSl.cells sl
  generalize sortedV ((sortB (L.names.map (·.1))).map .str) = sv at *
  simp only [walk, walkL, evOp, quietOp, farOp, nov, gd, rho, putT, wr, Nat.reduceAdd, Nat.reduceSub, Bool.false_eq_true, if_true, if_false, reduceIte, reduceCtorEq, walkM, Int.reduceBEq, Int.reduceBNe, Int.reduceLT, Int.reduceLE, decide_true, decide_false, eq_self, Bool.not_true, Bool.not_false, ↓ev_fa, ↓ev_field, ↓ev_load, ↓ev_store, stO_cells, List.all_cons, List.all_nil, Bool.and_self, Bool.and_true, ta38, new, hget_hset', hset_length, and_false, false_and, and_true, true_and, and_self, Nat.reduceEqDiff, Nat.reduceLT, Nat.lt_irrefl, Nat.not_lt_zero, splice, zerosN, fillV, walkB, pureL, V.pure, Nat.reduceMul, Nat.reduceLeDiff, Nat.one_ne_zero, List.take_zero, List.drop_succ_cons, List.drop_zero, List.take_succ_cons, List.replicate_one, List.drop_nil, List.take_nil, Nat.le_refl, Nat.zero_add, Nat.zero_mul, Nat.one_mul, Nat.mul_one, lj, oj, F.lt, cl, scl]
  refine W.done (EndK.ret (res_cell rfl rfl (hget_same (by first | exact F.lt | assumption | (simp only [hset_length]; first | exact F.lt | assumption))) (by rw [rd36]; rfl)) ⟨⟨.nilslice, sv, .nilslice, rfl, IsBytes.nil, ?_, IsInts.nil⟩, line_same hL (Ch.fin hn lowj lj (Ch.refl J))⟩)
  simpa [MLine.list] using sl

theorem stat_l : LSpec 37 MLine.stat := by
  rintro H a L c dv ok ⟨l, bs, clk, hL⟩ hc
  refine cr_of Try.func37 rfl ?_
  intro n K hn F
  have A := F.at_ hn hL.cells
  have B := F.at_ hn hL.names
  have sdv := IsSl.scalar hc.data
  have lk := fun g h => lookup_names (g := g) (nf := a.nf) (ns := a.ns) (l := L.names) (bs := bs) (clk := clk) h c.name
  simp only [walk, walkL, evOp, quietOp, farOp, nov, gd, rho, putT, wr, Nat.reduceAdd, Nat.reduceSub, Bool.false_eq_true, if_true, if_false, reduceIte, reduceCtorEq, walkM, Int.reduceBEq, Int.reduceBNe, Int.reduceLT, Int.reduceLE, decide_true, decide_false, eq_self, Bool.not_true, Bool.not_false, ↓ev_fa, ↓ev_field, ↓ev_load, ↓ev_store, stO_cells, List.all_cons, List.all_nil, Bool.and_self, Bool.and_true, Try.ntmps37, ta37, new, hget_hset', hset_length, and_false, false_and, and_true, true_and, and_self, Nat.reduceEqDiff, Nat.reduceLT, Nat.lt_irrefl, Nat.not_lt_zero, splice, zerosN, fillV, walkB, pureL, V.pure, Nat.reduceMul, Nat.reduceLeDiff, Nat.one_ne_zero, List.take_zero, List.drop_succ_cons, List.drop_zero, List.take_succ_cons, List.replicate_one, List.drop_nil, List.take_nil, Nat.le_refl, Nat.zero_add, Nat.zero_mul, Nat.one_mul, Nat.mul_one, F.own, F.lt, callC, sdv, A.get, A.ltK, B.get, B.ltK, lc_0, lc_1, lc_2, lc_3, lc_4, Nat.add_zero, A.ne, B.ne, ↓lk]
  refine W.opsK (by kernel_rfl) ?_
  cases hs : numOf L.names c.name with
  | none =>
    have hw : L.stat c = (L, fail 6) := by rw [MLine.stat, hs]
    simp only [walk, walkL, evOp, quietOp, farOp, nov, gd, rho, putT, wr, Nat.reduceAdd, Nat.reduceSub, Bool.false_eq_true, if_true, if_false, reduceIte, reduceCtorEq, walkM, Int.reduceBEq, Int.reduceBNe, Int.reduceLT, Int.reduceLE, decide_true, decide_false, eq_self, Bool.not_true, Bool.not_false, ↓ev_fa, ↓ev_field, ↓ev_load, ↓ev_store, stO_cells, List.all_cons, List.all_nil, Bool.and_self, Bool.and_true, Option.isSome_none]
    refine W.pcall (fails_fz 6) rfl rfl rfl ?_
    rintro _ rfl
    simp only [walk, walkL, evOp, quietOp, farOp, nov, gd, rho, putT, wr, Nat.reduceAdd, Nat.reduceSub, Bool.false_eq_true, if_true, if_false, reduceIte, reduceCtorEq, walkM, Int.reduceBEq, Int.reduceBNe, Int.reduceLT, Int.reduceLE, decide_true, decide_false, eq_self, Bool.not_true, Bool.not_false, ↓ev_fa, ↓ev_field, ↓ev_load, ↓ev_store, stO_cells, List.all_cons, List.all_nil, Bool.and_self, Bool.and_true, failV, ta37, new, hget_hset', hset_length, and_false, false_and, and_true, true_and, and_self, Nat.reduceEqDiff, Nat.reduceLT, Nat.lt_irrefl, Nat.not_lt_zero, F.lt, splice, zerosN, fillV, walkB, pureL, V.pure, Nat.reduceMul, Nat.reduceLeDiff, Nat.one_ne_zero, List.take_zero, List.drop_succ_cons, List.drop_zero, List.take_succ_cons, List.replicate_one, List.drop_nil, List.take_nil, Nat.le_refl, Nat.zero_add, Nat.zero_mul, Nat.one_mul, Nat.mul_one]
    refine W.done (EndK.ret (res_cell rfl rfl (hget_same (by first | exact F.lt | assumption | (simp only [hset_length]; first | exact F.lt | assumption))) (by rw [rd36]; rfl)) ?_)
    rw [hw]
    exact ⟨rep_fail 6, line_same hL (F.ch hn (by first | rfl | simp only [hset_length]) (fun f' s' h => by first | rfl | simp only [hget_hset', hset_length, F.lt, Nat.ne_of_lt h, false_and, if_false, AM.lk, *, -hn]))⟩
  | some m =>
    have hm := ok.num hs
    obtain ⟨o, ho, hk, hlk, hd⟩ := hL.obs.at_ (ok.at_ (i := m) (by omega) (by omega))
    have so := IsSl.scalar hd
    have co := IsSl.cells hd
    have ln2 := hd.len Try.underlying26
    have hw : L.stat c = (L, { fail 0 with info := ⟨m, (L.ob m).kind, (L.ob m).links, (L.ob m).data.length, if (L.ob m).kind = 3 then (L.ob m).data else []⟩ }) := by rw [MLine.stat, hs]
    have ra := fun (sn : Bool) (ow pr : Int) => ra_ob (a := a) (sn := sn) (ow := ow) (pr := pr) ho
    have oc : o.cells = [.int .u8 (L.ob m).kind, .int .i64 (L.ob m).links, o.data] := by rw [Ob.cells, hk, hlk]
    have tx := fun g => text_of (g := g) hd
    simp only [walk, walkL, evOp, quietOp, farOp, nov, gd, rho, putT, wr, Nat.reduceAdd, Nat.reduceSub, Bool.false_eq_true, if_true, if_false, reduceIte, reduceCtorEq, walkM, Int.reduceBEq, Int.reduceBNe, Int.reduceLT, Int.reduceLE, decide_true, decide_false, eq_self, Bool.not_true, Bool.not_false, ↓ev_fa, ↓ev_field, ↓ev_load, ↓ev_store, stO_cells, List.all_cons, List.all_nil, Bool.and_self, Bool.and_true, Option.isSome_some, Option.getD_some]
    simp only [walk, walkL, evOp, quietOp, farOp, nov, gd, rho, putT, wr, Nat.reduceAdd, Nat.reduceSub, Bool.false_eq_true, if_true, if_false, reduceIte, reduceCtorEq, walkM, Int.reduceBEq, Int.reduceBNe, Int.reduceLT, Int.reduceLE, decide_true, decide_false, eq_self, Bool.not_true, Bool.not_false, ↓ev_fa, ↓ev_field, ↓ev_load, ↓ev_store, stO_cells, List.all_cons, List.all_nil, Bool.and_self, Bool.and_true, ta37, new, hget_hset', hset_length, and_false, false_and, and_true, true_and, and_self, Nat.reduceEqDiff, Nat.reduceLT, Nat.lt_irrefl, Nat.not_lt_zero, splice, zerosN, fillV, walkB, pureL, V.pure, Nat.reduceMul, Nat.reduceLeDiff, Nat.one_ne_zero, List.take_zero, List.drop_succ_cons, List.drop_zero, List.take_succ_cons, List.replicate_one, List.drop_nil, List.take_nil, Nat.le_refl, Nat.zero_add, Nat.zero_mul, Nat.one_mul, Nat.mul_one, A.get, A.ltK, B.get, B.ltK, lc_0, lc_1, lc_2, lc_3, lc_4, Nat.add_zero, callC, F.own, F.lt, A.ne, ia_ob (show 0 ≤ m by omega) (show m < 16 by omega), ↓ra, oc, so, co, ln2]
    refine W.ite (fun h2 => ?_) (fun h2 => ?_)
    · have h3 : (L.ob m).kind = 3 := by simpa using h2
      rw [if_pos h3] at hw
      simp only [walk, walkL, evOp, quietOp, farOp, nov, gd, rho, putT, wr, Nat.reduceAdd, Nat.reduceSub, Bool.false_eq_true, if_true, if_false, reduceIte, reduceCtorEq, walkM, Int.reduceBEq, Int.reduceBNe, Int.reduceLT, Int.reduceLE, decide_true, decide_false, eq_self, Bool.not_true, Bool.not_false, ↓ev_fa, ↓ev_field, ↓ev_load, ↓ev_store, stO_cells, List.all_cons, List.all_nil, Bool.and_self, Bool.and_true, ta37, new, hget_hset', hset_length, and_false, false_and, and_true, true_and, and_self, Nat.reduceEqDiff, Nat.reduceLT, Nat.lt_irrefl, Nat.not_lt_zero, splice, zerosN, fillV, walkB, pureL, V.pure, Nat.reduceMul, Nat.reduceLeDiff, Nat.one_ne_zero, List.take_zero, List.drop_succ_cons, List.drop_zero, List.take_succ_cons, List.replicate_one, List.drop_nil, List.take_nil, Nat.le_refl, Nat.zero_add, Nat.zero_mul, Nat.one_mul, Nat.mul_one, F.own, F.lt, tx, so, co]
      refine W.done (EndK.ret (res_cell rfl rfl (hget_same (by first | exact F.lt | assumption | (simp only [hset_length]; first | exact F.lt | assumption))) (by rw [rd36]; rfl)) ?_)
      rw [hw]
      exact ⟨⟨.nilslice, .nilslice, .nilslice, rfl, IsBytes.nil, IsSl.nil, IsInts.nil⟩, line_same hL (F.ch hn (by first | rfl | simp only [hset_length]) (fun f' s' h => by first | rfl | simp only [hget_hset', hset_length, F.lt, Nat.ne_of_lt h, false_and, if_false, AM.lk, *, -hn]))⟩
    · have h3 : ¬ (L.ob m).kind = 3 := by simpa using h2
      rw [if_neg h3] at hw
      simp only [walk, walkL, evOp, quietOp, farOp, nov, gd, rho, putT, wr, Nat.reduceAdd, Nat.reduceSub, Bool.false_eq_true, if_true, if_false, reduceIte, reduceCtorEq, walkM, Int.reduceBEq, Int.reduceBNe, Int.reduceLT, Int.reduceLE, decide_true, decide_false, eq_self, Bool.not_true, Bool.not_false, ↓ev_fa, ↓ev_field, ↓ev_load, ↓ev_store, stO_cells, List.all_cons, List.all_nil, Bool.and_self, Bool.and_true, ta37, new, hget_hset', hset_length, and_false, false_and, and_true, true_and, and_self, Nat.reduceEqDiff, Nat.reduceLT, Nat.lt_irrefl, Nat.not_lt_zero, splice, zerosN, fillV, walkB, pureL, V.pure, Nat.reduceMul, Nat.reduceLeDiff, Nat.one_ne_zero, List.take_zero, List.drop_succ_cons, List.drop_zero, List.take_succ_cons, List.replicate_one, List.drop_nil, List.take_nil, Nat.le_refl, Nat.zero_add, Nat.zero_mul, Nat.one_mul, Nat.mul_one, F.own, F.lt, tx, so, co]
      refine W.done (EndK.ret (res_cell rfl rfl (hget_same (by first | exact F.lt | assumption | (simp only [hset_length]; first | exact F.lt | assumption))) (by rw [rd36]; rfl)) ?_)
      rw [hw]
      exact ⟨⟨.nilslice, .nilslice, .nilslice, rfl, IsBytes.nil, IsSl.nil, IsInts.nil⟩, line_same hL (F.ch hn (by first | rfl | simp only [hset_length]) (fun f' s' h => by first | rfl | simp only [hget_hset', hset_length, F.lt, Nat.ne_of_lt h, false_and, if_false, AM.lk, *, -hn]))⟩
end Go.Proofs.Ytebbgmeomkjibaa
end
