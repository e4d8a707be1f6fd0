/- This file holds in one the texts O23; each says at its head what it proves. -/
import Derived.Test.YtebbgmeomkjibaaG44
set_option linter.unusedSimpArgs false
set_option linter.unusedVariables false
section
/- model: promote. -/
set_option maxRecDepth 100000
namespace Go.Proofs.Ytebbgmeomkjibaa
open Go.AM Go.Mod

attribute [local irreducible] U W lineC

theorem hget_tk {K : Heap} {n f s : Nat} (h : f < n) : hget (K.take n) f s = hget K f s := by
  rw [hget_take, if_neg (by simp; omega)]
theorem tk_get {K : Heap} {n f s : Nat} {o : O} (h : hget (K.take n) f s = some o) : f < n ∧ hget K f s = some o := by
  rw [hget_take] at h
  split at h
  · cases h
  · rename_i hc
    have : f < n := by simpa using hc
    exact ⟨this, h⟩

theorem promote_h : HSpec 21 hPromote := by
  rintro H h S N c dv ⟨xs, kl, hh⟩ ok hN hc
  refine cr_of Try.func21 rfl ?_
  intro n K hn F
  have sdv := IsSl.scalar hc.data
  obtain ⟨bs, clk, hm, hb⟩ := hh.lmap
  have A := F.at_ hn hh.cell
  have B := F.at_ hn hm
  have lkl := fun g hg => lookup_lines (g := g) (mf := h.mf) (ms := h.ms) (l := xs) (bs := bs) (clk := clk) hg c.a
  have bad : ∀ (K2 : Heap) (e : Int), hPromote S c = (S, fail e) → Ch H K2 [] → RepV (failV e) (hPromote S c).2 ∧ HouseOut H K2 h (hPromote S c).1 ∧ Aside H K2 := by
    intro K2 e he hch
    rw [he]; exact ⟨rep_fail e, ⟨xs, kl, hh.ch hch, hh.kOut⟩, .of_ch0 hch⟩
  have hw := hh.lines ▸ lineOf_ent xs c.a
  simp only [walk, walkL, evOp, quietOp, farOp, nov, gd, rho, putT, wr, Nat.reduceAdd, Nat.reduceSub, Bool.false_eq_true, if_true, if_false, reduceIte, reduceCtorEq, walkM, Int.reduceBEq, Int.reduceBNe, Int.reduceLT, Int.reduceLE, decide_true, decide_false, eq_self, Bool.not_true, Bool.not_false, ↓ev_fa, ↓ev_field, ↓ev_load, ↓ev_store, stO_cells, List.all_cons, List.all_nil, Bool.and_self, Bool.and_true, Try.ntmps21, ta21, new, hget_hset', hset_length, and_false, false_and, and_true, true_and, and_self, Nat.reduceEqDiff, Nat.reduceLT, Nat.lt_irrefl, Nat.not_lt_zero, splice, zerosN, fillV, walkB, pureL, V.pure, Nat.reduceMul, Nat.reduceLeDiff, Nat.one_ne_zero, List.take_zero, List.drop_succ_cons, List.drop_zero, List.take_succ_cons, List.replicate_one, List.drop_nil, List.take_nil, Nat.le_refl, Nat.zero_add, Nat.zero_mul, Nat.one_mul, Nat.mul_one, F.own, F.lt, sdv, A.get, A.ltK, B.get, B.ltK, lc_0, lc_1, lc_2, lc_3, lc_4, Nat.add_zero, callC, A.ne, B.ne, ↓lkl]
  refine W.opsK (by kernel_rfl) ?_
  cases hx : entOf xs c.a with
  | none =>
    rw [hx] at hw
    simp only [walk, walkL, evOp, quietOp, farOp, nov, gd, rho, putT, wr, Nat.reduceAdd, Nat.reduceSub, Bool.false_eq_true, if_true, if_false, reduceIte, reduceCtorEq, walkM, Int.reduceBEq, Int.reduceBNe, Int.reduceLT, Int.reduceLE, decide_true, decide_false, eq_self, Bool.not_true, Bool.not_false, ↓ev_fa, ↓ev_field, ↓ev_load, ↓ev_store, stO_cells, List.all_cons, List.all_nil, Bool.and_self, Bool.and_true, bn_pt0 Try.underlying57]
    refine W.pcall (fails_fz 6) rfl rfl rfl ?_
    rintro _ rfl
    simp only [walk, walkL, evOp, quietOp, farOp, nov, gd, rho, putT, wr, Nat.reduceAdd, Nat.reduceSub, Bool.false_eq_true, if_true, if_false, reduceIte, reduceCtorEq, walkM, Int.reduceBEq, Int.reduceBNe, Int.reduceLT, Int.reduceLE, decide_true, decide_false, eq_self, Bool.not_true, Bool.not_false, ↓ev_fa, ↓ev_field, ↓ev_load, ↓ev_store, stO_cells, List.all_cons, List.all_nil, Bool.and_self, Bool.and_true, failV, ta21, new, hget_hset', hset_length, and_false, false_and, and_true, true_and, and_self, Nat.reduceEqDiff, Nat.reduceLT, Nat.lt_irrefl, Nat.not_lt_zero, F.lt, splice, zerosN, fillV, walkB, pureL, V.pure, Nat.reduceMul, Nat.reduceLeDiff, Nat.one_ne_zero, List.take_zero, List.drop_succ_cons, List.drop_zero, List.take_succ_cons, List.replicate_one, List.drop_nil, List.take_nil, Nat.le_refl, Nat.zero_add, Nat.zero_mul, Nat.one_mul, Nat.mul_one]
    exact W.done (EndK.ret (res_cell rfl rfl (hget_same (by first | exact F.lt | assumption | (simp only [hset_length]; first | exact F.lt | assumption))) (by rw [rd36]; rfl)) (bad _ 6 (by rw [hPromote, hw]; rfl) (F.ch hn (by first | rfl | simp only [hset_length]) (fun f' s' h => by first | rfl | simp only [hget_hset', hset_length, F.lt, Nat.ne_of_lt h, false_and, if_false, AM.lk, *, -hn]))))
  | some x =>
    rw [hx] at hw
    have hxm := (entOf_mem hx).1
    obtain ⟨l, bs1, clk1, hL⟩ := hh.line x hxm
    have X := F.at_ hn hL.cells
    have hw2 : hPromote S c = if x.line.snap then (S, fail 202) else if x.line.prev = 0 ∨ ownerOf S.lines x.line.prev = c.a then (S, fail 2) else
        ({ S with lines := promFrom (ownerOf S.lines x.line.prev) c.a (x.line.prev.toNat + 1) S.lines x.line.prev }, fail 0) := by
      rw [hPromote, hw]; simp only [Option.map_some]
    simp only [walk, walkL, evOp, quietOp, farOp, nov, gd, rho, putT, wr, Nat.reduceAdd, Nat.reduceSub, Bool.false_eq_true, if_true, if_false, reduceIte, reduceCtorEq, walkM, Int.reduceBEq, Int.reduceBNe, Int.reduceLT, Int.reduceLE, decide_true, decide_false, eq_self, Bool.not_true, Bool.not_false, ↓ev_fa, ↓ev_field, ↓ev_load, ↓ev_store, stO_cells, List.all_cons, List.all_nil, Bool.and_self, Bool.and_true, bn_pt1 Try.underlying57, ta21, new, hget_hset', hset_length, and_false, false_and, and_true, true_and, and_self, Nat.reduceEqDiff, Nat.reduceLT, Nat.lt_irrefl, Nat.not_lt_zero, zerosN, fillV, walkB, pureL, V.pure, Nat.reduceMul, Nat.reduceLeDiff, Nat.one_ne_zero, List.take_zero, List.drop_succ_cons, List.drop_zero, List.take_succ_cons, List.replicate_one, List.drop_nil, List.take_nil, Nat.le_refl, Nat.zero_add, Nat.zero_mul, Nat.one_mul, Nat.mul_one, F.lt, X.get, X.ne, A.get, A.ltK, B.get, B.ltK, lc_0, lc_1, lc_2, lc_3, lc_4, Nat.add_zero, callC]
    refine W.ite (fun h1 => ?_) (fun h1 => ?_)
    · rw [h1] at hw2
      simp only [walk, walkL, evOp, quietOp, farOp, nov, gd, rho, putT, wr, Nat.reduceAdd, Nat.reduceSub, Bool.false_eq_true, if_true, if_false, reduceIte, reduceCtorEq, walkM, Int.reduceBEq, Int.reduceBNe, Int.reduceLT, Int.reduceLE, decide_true, decide_false, eq_self, Bool.not_true, Bool.not_false, ↓ev_fa, ↓ev_field, ↓ev_load, ↓ev_store, stO_cells, List.all_cons, List.all_nil, Bool.and_self, Bool.and_true]
      refine W.pcall (fails_fz 202) rfl rfl rfl ?_
      rintro _ rfl
      simp only [walk, walkL, evOp, quietOp, farOp, nov, gd, rho, putT, wr, Nat.reduceAdd, Nat.reduceSub, Bool.false_eq_true, if_true, if_false, reduceIte, reduceCtorEq, walkM, Int.reduceBEq, Int.reduceBNe, Int.reduceLT, Int.reduceLE, decide_true, decide_false, eq_self, Bool.not_true, Bool.not_false, ↓ev_fa, ↓ev_field, ↓ev_load, ↓ev_store, stO_cells, List.all_cons, List.all_nil, Bool.and_self, Bool.and_true, failV, ta21, new, hget_hset', hset_length, and_false, false_and, and_true, true_and, and_self, Nat.reduceEqDiff, Nat.reduceLT, Nat.lt_irrefl, Nat.not_lt_zero, F.lt, splice, zerosN, fillV, walkB, pureL, V.pure, Nat.reduceMul, Nat.reduceLeDiff, Nat.one_ne_zero, List.take_zero, List.drop_succ_cons, List.drop_zero, List.take_succ_cons, List.replicate_one, List.drop_nil, List.take_nil, Nat.le_refl, Nat.zero_add, Nat.zero_mul, Nat.one_mul, Nat.mul_one]
      exact W.done (EndK.ret (res_cell rfl rfl (hget_same (by first | exact F.lt | assumption | (simp only [hset_length]; first | exact F.lt | assumption))) (by rw [rd36]; rfl)) (bad _ 202 hw2 (F.ch hn (by first | rfl | simp only [hset_length]) (fun f' s' h => by first | rfl | simp only [hget_hset', hset_length, F.lt, Nat.ne_of_lt h, false_and, if_false, AM.lk, *, -hn]))))
    · rw [h1] at hw2
      simp only [Bool.false_eq_true, if_false] at hw2
      simp only [walk, walkL, evOp, quietOp, farOp, nov, gd, rho, putT, wr, Nat.reduceAdd, Nat.reduceSub, Bool.false_eq_true, if_true, if_false, reduceIte, reduceCtorEq, walkM, Int.reduceBEq, Int.reduceBNe, Int.reduceLT, Int.reduceLE, decide_true, decide_false, eq_self, Bool.not_true, Bool.not_false, ↓ev_fa, ↓ev_field, ↓ev_load, ↓ev_store, stO_cells, List.all_cons, List.all_nil, Bool.and_self, Bool.and_true, bn_pt1 Try.underlying57, ta21, new, hget_hset', hset_length, and_false, false_and, and_true, true_and, and_self, Nat.reduceEqDiff, Nat.reduceLT, Nat.lt_irrefl, Nat.not_lt_zero, zerosN, fillV, walkB, pureL, V.pure, Nat.reduceMul, Nat.reduceLeDiff, Nat.one_ne_zero, List.take_zero, List.drop_succ_cons, List.drop_zero, List.take_succ_cons, List.replicate_one, List.drop_nil, List.take_nil, Nat.le_refl, Nat.zero_add, Nat.zero_mul, Nat.one_mul, Nat.mul_one, F.lt, X.get, X.ne, A.get, A.ltK, B.get, B.ltK, lc_0, lc_1, lc_2, lc_3, lc_4, Nat.add_zero, callC]
      refine W.ite (fun h2 => ?_) (fun h2 => ?_)
      · have h2' : x.line.prev = 0 := by simpa using h2
        rw [if_pos (.inl h2')] at hw2
        simp only [walk, walkL, evOp, quietOp, farOp, nov, gd, rho, putT, wr, Nat.reduceAdd, Nat.reduceSub, Bool.false_eq_true, if_true, if_false, reduceIte, reduceCtorEq, walkM, Int.reduceBEq, Int.reduceBNe, Int.reduceLT, Int.reduceLE, decide_true, decide_false, eq_self, Bool.not_true, Bool.not_false, ↓ev_fa, ↓ev_field, ↓ev_load, ↓ev_store, stO_cells, List.all_cons, List.all_nil, Bool.and_self, Bool.and_true, h2]
        refine W.pcall (fails_fz 2) rfl rfl rfl ?_
        rintro _ rfl
        simp only [walk, walkL, evOp, quietOp, farOp, nov, gd, rho, putT, wr, Nat.reduceAdd, Nat.reduceSub, Bool.false_eq_true, if_true, if_false, reduceIte, reduceCtorEq, walkM, Int.reduceBEq, Int.reduceBNe, Int.reduceLT, Int.reduceLE, decide_true, decide_false, eq_self, Bool.not_true, Bool.not_false, ↓ev_fa, ↓ev_field, ↓ev_load, ↓ev_store, stO_cells, List.all_cons, List.all_nil, Bool.and_self, Bool.and_true, failV, ta21, new, hget_hset', hset_length, and_false, false_and, and_true, true_and, and_self, Nat.reduceEqDiff, Nat.reduceLT, Nat.lt_irrefl, Nat.not_lt_zero, F.lt, splice, zerosN, fillV, walkB, pureL, V.pure, Nat.reduceMul, Nat.reduceLeDiff, Nat.one_ne_zero, List.take_zero, List.drop_succ_cons, List.drop_zero, List.take_succ_cons, List.replicate_one, List.drop_nil, List.take_nil, Nat.le_refl, Nat.zero_add, Nat.zero_mul, Nat.one_mul, Nat.mul_one]
        exact W.done (EndK.ret (res_cell rfl rfl (hget_same (by first | exact F.lt | assumption | (simp only [hset_length]; first | exact F.lt | assumption))) (by rw [rd36]; rfl)) (bad _ 2 hw2 (F.ch hn (by first | rfl | simp only [hset_length]) (fun f' s' h => by first | rfl | simp only [hget_hset', hset_length, F.lt, Nat.ne_of_lt h, false_and, if_false, AM.lk, *, -hn]))))
      · have h2' : ¬ x.line.prev = 0 := by simpa using h2
        obtain ⟨yl, hy1, hy2⟩ := ok.prevOf (i := c.a) (L := x.line) (by rw [hw]; rfl) h2'
        have hy3 := hh.lines ▸ lineOf_ent xs x.line.prev
        rw [hy1] at hy3
        have how : ownerOf S.lines x.line.prev = yl.owner := by rw [ownerOf, hy1]; rfl
        rw [how] at hw2
        cases hy : entOf xs x.line.prev with
        | none => rw [hy] at hy3; cases hy3
        | some y =>
          rw [hy] at hy3
          have e1 : yl = y.line := by simpa using hy3
          subst e1
          have hym := (entOf_mem hy).1
          obtain ⟨ly, bsy, clky, hLy⟩ := hh.line y hym
          have Y := F.at_ hn hLy.cells
          have lkp := fun g hg => lookup_lines (g := g) (mf := h.mf) (ms := h.ms) (l := xs) (bs := bs) (clk := clk) hg x.line.prev
          rw [hy] at lkp
          simp only [walk, walkL, evOp, quietOp, farOp, nov, gd, rho, putT, wr, Nat.reduceAdd, Nat.reduceSub, Bool.false_eq_true, if_true, if_false, reduceIte, reduceCtorEq, walkM, Int.reduceBEq, Int.reduceBNe, Int.reduceLT, Int.reduceLE, decide_true, decide_false, eq_self, Bool.not_true, Bool.not_false, ↓ev_fa, ↓ev_field, ↓ev_load, ↓ev_store, stO_cells, List.all_cons, List.all_nil, Bool.and_self, Bool.and_true, ta21, new, hget_hset', hset_length, and_false, false_and, and_true, true_and, and_self, Nat.reduceEqDiff, Nat.reduceLT, Nat.lt_irrefl, Nat.not_lt_zero, zerosN, fillV, walkB, pureL, V.pure, Nat.reduceMul, Nat.reduceLeDiff, Nat.one_ne_zero, List.take_zero, List.drop_succ_cons, List.drop_zero, List.take_succ_cons, List.replicate_one, List.drop_nil, List.take_nil, Nat.le_refl, Nat.zero_add, Nat.zero_mul, Nat.one_mul, Nat.mul_one, F.lt, X.get, X.ne, Y.get, Y.ne, A.ne, B.ne, A.get, A.ltK, B.get, B.ltK, lc_0, lc_1, lc_2, lc_3, lc_4, Nat.add_zero, callC, ↓lkp]
          refine W.opsK (by kernel_rfl) ?_
          simp only [walk, walkL, evOp, quietOp, farOp, nov, gd, rho, putT, wr, Nat.reduceAdd, Nat.reduceSub, Bool.false_eq_true, if_true, if_false, reduceIte, reduceCtorEq, walkM, Int.reduceBEq, Int.reduceBNe, Int.reduceLT, Int.reduceLE, decide_true, decide_false, eq_self, Bool.not_true, Bool.not_false, ↓ev_fa, ↓ev_field, ↓ev_load, ↓ev_store, stO_cells, List.all_cons, List.all_nil, Bool.and_self, Bool.and_true]
          refine W.ite (fun h3 => ?_) (fun h3 => ?_)
          · have h3' : y.line.owner = c.a := by simpa using h3
            rw [if_pos (.inr h3')] at hw2
            simp only [walk, walkL, evOp, quietOp, farOp, nov, gd, rho, putT, wr, Nat.reduceAdd, Nat.reduceSub, Bool.false_eq_true, if_true, if_false, reduceIte, reduceCtorEq, walkM, Int.reduceBEq, Int.reduceBNe, Int.reduceLT, Int.reduceLE, decide_true, decide_false, eq_self, Bool.not_true, Bool.not_false, ↓ev_fa, ↓ev_field, ↓ev_load, ↓ev_store, stO_cells, List.all_cons, List.all_nil, Bool.and_self, Bool.and_true]
            refine W.pcall (fails_fz 2) rfl rfl rfl ?_
            rintro _ rfl
            simp only [walk, walkL, evOp, quietOp, farOp, nov, gd, rho, putT, wr, Nat.reduceAdd, Nat.reduceSub, Bool.false_eq_true, if_true, if_false, reduceIte, reduceCtorEq, walkM, Int.reduceBEq, Int.reduceBNe, Int.reduceLT, Int.reduceLE, decide_true, decide_false, eq_self, Bool.not_true, Bool.not_false, ↓ev_fa, ↓ev_field, ↓ev_load, ↓ev_store, stO_cells, List.all_cons, List.all_nil, Bool.and_self, Bool.and_true, failV, ta21, new, hget_hset', hset_length, and_false, false_and, and_true, true_and, and_self, Nat.reduceEqDiff, Nat.reduceLT, Nat.lt_irrefl, Nat.not_lt_zero, F.lt, splice, zerosN, fillV, walkB, pureL, V.pure, Nat.reduceMul, Nat.reduceLeDiff, Nat.one_ne_zero, List.take_zero, List.drop_succ_cons, List.drop_zero, List.take_succ_cons, List.replicate_one, List.drop_nil, List.take_nil, Nat.le_refl, Nat.zero_add, Nat.zero_mul, Nat.one_mul, Nat.mul_one]
            exact W.done (EndK.ret (res_cell rfl rfl (hget_same (by first | exact F.lt | assumption | (simp only [hset_length]; first | exact F.lt | assumption))) (by rw [rd36]; rfl)) (bad _ 2 hw2 (F.ch hn (by first | rfl | simp only [hset_length]) (fun f' s' h => by first | rfl | simp only [hget_hset', hset_length, F.lt, Nat.ne_of_lt h, false_and, if_false, AM.lk, *, -hn]))))
          · have h3' : ¬ y.line.owner = c.a := by simpa using h3
            rw [if_neg (by simp [h2', h3'])] at hw2
            simp only [walk, walkL, evOp, quietOp, farOp, nov, gd, rho, putT, wr, Nat.reduceAdd, Nat.reduceSub, Bool.false_eq_true, if_true, if_false, reduceIte, reduceCtorEq, walkM, Int.reduceBEq, Int.reduceBNe, Int.reduceLT, Int.reduceLE, decide_true, decide_false, eq_self, Bool.not_true, Bool.not_false, ↓ev_fa, ↓ev_field, ↓ev_load, ↓ev_store, stO_cells, List.all_cons, List.all_nil, Bool.and_self, Bool.and_true, ta21, new, hget_hset', hset_length, and_false, false_and, and_true, true_and, and_self, Nat.reduceEqDiff, Nat.reduceLT, Nat.lt_irrefl, Nat.not_lt_zero, zerosN, fillV, walkB, pureL, V.pure, Nat.reduceMul, Nat.reduceLeDiff, Nat.one_ne_zero, List.take_zero, List.drop_succ_cons, List.drop_zero, List.take_succ_cons, List.replicate_one, List.drop_nil, List.take_nil, Nat.le_refl, Nat.zero_add, Nat.zero_mul, Nat.one_mul, Nat.mul_one, F.lt, X.get, X.ne, Y.get, Y.ne, A.ne, B.ne, A.get, A.ltK, B.get, B.ltK, lc_0, lc_1, lc_2, lc_3, lc_4, Nat.add_zero, callC, ↓lkp]
            refine W.opsK (by kernel_rfl) ?_
            simp only [walk, walkL, evOp, quietOp, farOp, nov, gd, rho, putT, wr, Nat.reduceAdd, Nat.reduceSub, Bool.false_eq_true, if_true, if_false, reduceIte, reduceCtorEq, walkM, Int.reduceBEq, Int.reduceBNe, Int.reduceLT, Int.reduceLE, decide_true, decide_false, eq_self, Bool.not_true, Bool.not_false, ↓ev_fa, ↓ev_field, ↓ev_load, ↓ev_store, stO_cells, List.all_cons, List.all_nil, Bool.and_self, Bool.and_true, ta21, new, hget_hset', hset_length, and_false, false_and, and_true, true_and, and_self, Nat.reduceEqDiff, Nat.reduceLT, Nat.lt_irrefl, Nat.not_lt_zero, zerosN, fillV, walkB, pureL, V.pure, Nat.reduceMul, Nat.reduceLeDiff, Nat.one_ne_zero, List.take_zero, List.drop_succ_cons, List.drop_zero, List.take_succ_cons, List.replicate_one, List.drop_nil, List.take_nil, Nat.le_refl, Nat.zero_add, Nat.zero_mul, Nat.one_mul, Nat.mul_one, F.lt, X.get, X.ne, A.get, A.ltK, B.get, B.ltK, lc_0, lc_1, lc_2, lc_3, lc_4, Nat.add_zero, callC]
            generalize hwas : y.line.owner = was at *
            refine W.ul ?_
            have hT : ∀ f s, f < H.length → hget (List.take n (hset (hset K n 3 (.cells (callC c dv))) n 4 (.cells [.int .i64 0, .int .i64 0, .nilslice, .nilslice, .int .i64 0, .int .u8 0, .int .i64 0, .int .i64 0, .str [], .nilslice]))) f s = hget H f s := fun f s hf => by
              rw [hget_tk (by omega)]
              simp only [hget_hset', hset_length, F.lt, show ¬ f = n by omega, false_and, if_false]; exact F.low f s (by omega)
            refine W.loop (fun (a : Nat × List Ent × Int) t H1 => maskT [0, 3, 4, 6, 7] t 0 = st21_11 (.ptr h.f h.s 0) (.ptr n 3 0) (.ptr n 4 0) (.int .i64 was) (.int .i64 a.2.2) ∧ n < H1.length ∧ hget H1 n 3 = some (.cells (callC c dv)) ∧ hget H1 n 4 = some (.cells [.int .i64 0, .int .i64 0, .nilslice, .nilslice, .int .i64 0, .int .u8 0, .int .i64 0, .int .i64 0, .str [], .nilslice]) ∧
              HouseAt (H1.take n) h { S with lines := linesOf a.2.1 } a.2.1 kl ∧ StOk { S with lines := linesOf a.2.1 } N ∧ (∀ f s o, hget H f s = some o → asideO o = true → hget H1 f s = some o) ∧ encL a.2.1 = encL xs ∧ (a.2.2 = 0 ∨ ∃ y, entOf a.2.1 a.2.2 = some y ∧ y.line.snap = true ∧ 0 < a.2.2) ∧ a.2.2.toNat < a.1 ∧
              promFrom was c.a a.1 (linesOf a.2.1) a.2.2 = promFrom was c.a (x.line.prev.toNat + 1) S.lines x.line.prev) (fun a => a.2.2.toNat) ?_ (x.line.prev.toNat + 1, xs, x.line.prev)
              ⟨rfl, by simp only [hset_length]; exact F.lt, by simp only [hget_hset', hset_length, F.lt, Nat.reduceEqDiff, and_false, and_self, if_true, if_false]; rfl, hget_same (by simp only [hset_length]; exact F.lt), ?_, ?_, ?_, rfl, .inr ⟨y, hy, hy2, ?_⟩, by simp, by rw [← hh.lines]⟩ rfl
            rotate_left
            · rw [← hh.lines]
              exact hh.low hT
            · rw [← hh.lines]; exact ok
            · intro f s o g1 g2
              have hf := hget_lt g1
              have := hT f s hf
              rw [hget_tk (by omega)] at this
              exact this.trans g1
            · have h5 := ok.id0 (y.id, y.line) (by rw [hh.lines]; exact List.mem_map.2 ⟨y, hym, rfl⟩)
              have h6 := (entOf_mem hy).2
              simp only at h5; simp only; omega
            rintro ⟨k, xs1, i⟩ t H1 ⟨ht, hn1, g3, g4, hh1, ok1, has, henc, hi, hki, hpr⟩
            simp only at hh1 ok1 henc hi hki hpr ht
            refine ⟨_, _, forget_keep (kt := [0, 3, 4, 6, 7]) rfl, ?_⟩
            rw [ht]
            simp only [st21_11]
            obtain ⟨bs2, clk2, hm2, hb2⟩ := hh1.lmap
            have gm := (tk_get hm2).2
            have gc := (tk_get hh1.cell).2
            have lk1 := fun g hg => lookup_lines (g := g) (mf := h.mf) (ms := h.ms) (l := xs1) (bs := bs2) (clk := clk2) hg i
            have finish : promFrom was c.a k (linesOf xs1) i = linesOf xs1 → ∀ v, RepV (failV 0) (hPromote S c).2 ∧ HouseOut H (popF n v (hset H1 n 4 (.cells [.int .i64 0, .int .i64 0, .nilslice, .nilslice, .int .i64 0, .int .u8 0, .int .i64 0, .int .i64 0, .str [], .nilslice]))) h (hPromote S c).1 ∧ Aside H (popF n v (hset H1 n 4 (.cells [.int .i64 0, .int .i64 0, .nilslice, .nilslice, .int .i64 0, .int .u8 0, .int .i64 0, .int .i64 0, .str [], .nilslice]))) := by
              intro hf v
              rw [hw2, ← hpr, hf]
              refine ⟨rep_fail 0, ⟨xs1, kl, hh1.low fun f s hfl => ?_, hh.kOut⟩, ⟨?_, fun f s o g1 g2 => ?_⟩⟩
              rotate_left
              · exact Nat.le_trans (by omega) (popF_len (n := n) (by simp only [hset_length]; omega))
              · have hf := hget_lt g1
                rw [popF_get (by omega), hget_frame hn1 (by omega)]; exact has f s o g1 g2
              have hfn : f < n := by
                rw [List.length_take] at hfl; omega
              rw [popF_get hfn, hget_frame hn1 (by omega), hget_tk hfn]
            obtain ⟨k', hk'⟩ : ∃ k', k = k' + 1 := ⟨k - 1, by omega⟩
            subst hk'
            by_cases hi0 : i = 0
            · subst hi0
              simp only [walk, walkL, evOp, quietOp, farOp, nov, gd, rho, putT, wr, Nat.reduceAdd, Nat.reduceSub, Bool.false_eq_true, if_true, if_false, reduceIte, reduceCtorEq, walkM, Int.reduceBEq, Int.reduceBNe, Int.reduceLT, Int.reduceLE, decide_true, decide_false, eq_self, Bool.not_true, Bool.not_false, ↓ev_fa, ↓ev_field, ↓ev_load, ↓ev_store, stO_cells, List.all_cons, List.all_nil, Bool.and_self, Bool.and_true]
              refine W.done ?_
              simp only [walk, walkL, evOp, quietOp, farOp, nov, gd, rho, putT, wr, Nat.reduceAdd, Nat.reduceSub, Bool.false_eq_true, if_true, if_false, reduceIte, reduceCtorEq, walkM, Int.reduceBEq, Int.reduceBNe, Int.reduceLT, Int.reduceLE, decide_true, decide_false, eq_self, Bool.not_true, Bool.not_false, ↓ev_fa, ↓ev_field, ↓ev_load, ↓ev_store, stO_cells, List.all_cons, List.all_nil, Bool.and_self, Bool.and_true, ta21, new, hget_hset', hset_length, and_false, false_and, and_true, true_and, and_self, Nat.reduceEqDiff, Nat.reduceLT, Nat.lt_irrefl, Nat.not_lt_zero, splice, zerosN, fillV, walkB, pureL, V.pure, Nat.reduceMul, Nat.reduceLeDiff, Nat.one_ne_zero, List.take_zero, List.drop_succ_cons, List.drop_zero, List.take_succ_cons, List.replicate_one, List.drop_nil, List.take_nil, Nat.le_refl, Nat.zero_add, Nat.zero_mul, Nat.one_mul, Nat.mul_one, hn1, g4]
              exact W.done (EndK.ret (res_cell rfl rfl (hget_same (by first | exact F.lt | assumption | (simp only [hset_length]; first | exact F.lt | assumption))) (by rw [rd36]; rfl)) (finish (by simp [promFrom]) _))
            · have c0 : (i != 0) = true := by simpa using hi0
              rcases hi with h0 | ⟨y1, hy1e, hy1s, hip⟩
              · exact absurd h0 hi0
              · rw [hy1e] at lk1
                have hy1m := (entOf_mem hy1e).1
                obtain ⟨ly1, bsy1, clky1, hLy1⟩ := hh1.line y1 hy1m
                have gy := (tk_get hLy1.cells).2
                have ylt := (tk_get hLy1.cells).1
                have hl1 : lineOf (linesOf xs1) i = some y1.line := by rw [lineOf_ent, hy1e]; rfl
                simp only [walk, walkL, evOp, quietOp, farOp, nov, gd, rho, putT, wr, Nat.reduceAdd, Nat.reduceSub, Bool.false_eq_true, if_true, if_false, reduceIte, reduceCtorEq, walkM, Int.reduceBEq, Int.reduceBNe, Int.reduceLT, Int.reduceLE, decide_true, decide_false, eq_self, Bool.not_true, Bool.not_false, ↓ev_fa, ↓ev_field, ↓ev_load, ↓ev_store, stO_cells, List.all_cons, List.all_nil, Bool.and_self, Bool.and_true, c0, ta21, new, hget_hset', hset_length, and_false, false_and, and_true, true_and, and_self, Nat.reduceEqDiff, Nat.reduceLT, Nat.lt_irrefl, Nat.not_lt_zero, zerosN, fillV, walkB, pureL, V.pure, Nat.reduceMul, Nat.reduceLeDiff, Nat.one_ne_zero, List.take_zero, List.drop_succ_cons, List.drop_zero, List.take_succ_cons, List.replicate_one, List.drop_nil, List.take_nil, Nat.le_refl, Nat.zero_add, Nat.zero_mul, Nat.one_mul, Nat.mul_one, gc, gm, gy, lc_1, ↓lk1]
                refine W.ite (fun h4 => ?_) (fun h4 => ?_)
                · have h4' : y1.line.owner = was := by simpa using h4
                  have yl1 : y1.loc.f < H1.length := by omega
                  have yn1 : ¬ n = y1.loc.f := by omega
                  have yn2 : ¬ y1.loc.f = n := by omega
                  have dm := hh1.d3 hy1m
                  have dc := hh1.d1 hy1m
                  simp only [walk, walkL, evOp, quietOp, farOp, nov, gd, rho, putT, wr, Nat.reduceAdd, Nat.reduceSub, Bool.false_eq_true, if_true, if_false, reduceIte, reduceCtorEq, walkM, Int.reduceBEq, Int.reduceBNe, Int.reduceLT, Int.reduceLE, decide_true, decide_false, eq_self, Bool.not_true, Bool.not_false, ↓ev_fa, ↓ev_field, ↓ev_load, ↓ev_store, stO_cells, List.all_cons, List.all_nil, Bool.and_self, Bool.and_true, ta21, new, hget_hset', hset_length, and_false, false_and, and_true, true_and, and_self, Nat.reduceEqDiff, Nat.reduceLT, Nat.lt_irrefl, Nat.not_lt_zero, zerosN, fillV, walkB, pureL, V.pure, Nat.reduceMul, Nat.reduceLeDiff, Nat.one_ne_zero, List.take_zero, List.drop_succ_cons, List.drop_zero, List.take_succ_cons, List.replicate_one, List.drop_nil, List.take_nil, Nat.le_refl, Nat.zero_add, Nat.zero_mul, Nat.one_mul, Nat.mul_one, gc, gm, gy, g3, callC, ↓lk1, yl1, yn1, st_owner (a := y1.loc) (sn := y1.line.snap) (ow := y1.line.owner) (pr := y1.line.prev) (l := ly1) (f := y1.loc.f) (s := y1.loc.s) (n := c.a)]
                  refine W.opsK (by kernel_rfl) ?_
                  have lk2 := lk1 (hget (hset H1 y1.loc.f y1.loc.s (.cells (lineC y1.loc y1.line.snap c.a y1.line.prev ly1)))) (by rw [hget_ne yl1 dm]; exact gm)
                  simp only [walk, walkL, evOp, quietOp, farOp, nov, gd, rho, putT, wr, Nat.reduceAdd, Nat.reduceSub, Bool.false_eq_true, if_true, if_false, reduceIte, reduceCtorEq, walkM, Int.reduceBEq, Int.reduceBNe, Int.reduceLT, Int.reduceLE, decide_true, decide_false, eq_self, Bool.not_true, Bool.not_false, ↓ev_fa, ↓ev_field, ↓ev_load, ↓ev_store, stO_cells, List.all_cons, List.all_nil, Bool.and_self, Bool.and_true, ta21, new, hget_hset', hset_length, and_false, false_and, and_true, true_and, and_self, Nat.reduceEqDiff, Nat.reduceLT, Nat.lt_irrefl, Nat.not_lt_zero, zerosN, fillV, walkB, pureL, V.pure, Nat.reduceMul, Nat.reduceLeDiff, Nat.one_ne_zero, List.take_zero, List.drop_succ_cons, List.drop_zero, List.take_succ_cons, List.replicate_one, List.drop_nil, List.take_nil, Nat.le_refl, Nat.zero_add, Nat.zero_mul, Nat.one_mul, Nat.mul_one, gc, gm, ↓lk2, yl1, dc, dm, lc_2]
                  have e5 : linesOf (putE xs1 i { y1.line with owner := c.a } y1.loc) = Go.Mod.putL (linesOf xs1) i { y1.line with owner := c.a } := putE_lines _ _ _ _
                  have ok2 : StOk { S with lines := linesOf (putE xs1 i { y1.line with owner := c.a } y1.loc) } N := by
                    rw [e5]
                    exact ok1.putL (L := y1.line) hl1 ((ok1.ok (y1.id, y1.line) (List.mem_map.2 ⟨y1, hy1m, rfl⟩)).owner c.a) rfl rfl rfl
                  have hl2 : lineOf (linesOf (putE xs1 i { y1.line with owner := c.a } y1.loc)) i = some { y1.line with owner := c.a } := by
                    rw [e5, lineOf_putL, hl1]; simp
                  have hds := ok1.desc (y1.id, y1.line) (List.mem_map.2 ⟨y1, hy1m, rfl⟩) hy1s
                  simp only [(entOf_mem hy1e).2] at hds
                  refine W.done ⟨(k', putE xs1 i { y1.line with owner := c.a } y1.loc, y1.line.prev), ⟨rfl, by simp only [hset_length]; exact hn1, by rw [hget_frame yl1 yn1]; exact g3, by rw [hget_frame yl1 yn1]; exact g4, ?_, ok2, ?_, ?_, ?_, ?_, ?_⟩, ?_⟩
                  · have h6 := hh1.line_upd (H' := List.take n (hset H1 y1.loc.f y1.loc.s (.cells (lineC y1.loc y1.line.snap c.a y1.line.prev ly1)))) (hh1.uniq ok1) hy1e (L' := { y1.line with owner := c.a }) ⟨ly1, bsy1, clky1, hLy1.obs, by rw [hget_tk ylt]; exact hget_same yl1, ?_, hLy1.born⟩ ⟨by simp only [List.length_take, hset_length]; omega, fun f s hf n1 n2 => ?_⟩ rfl
                    · rw [e5]; exact h6
                    · have := tk_get hLy1.names
                      rw [hget_tk this.1, hget_ne yl1 hLy1.ne2]; exact this.2
                    · have hfn : f < n := by rw [List.length_take] at hf; omega
                      rw [hget_tk hfn, hget_tk hfn, hget_ne yl1 n1]
                  · intro f s o g1 g2
                    rw [hget_ne yl1 (aside_ne (has f s o g1 g2) g2 gy (as_line (by rw [hLy1.obs.len]; exact (ok1.ok (y1.id, y1.line) (List.mem_map.2 ⟨y1, hy1m, rfl⟩)).n16)))]
                    exact has f s o g1 g2
                  · rw [putE_enc xs1 i _ y1.loc hy1e rfl rfl]; exact henc
                  · by_cases h7 : y1.line.prev = 0
                    · exact .inl h7
                    · obtain ⟨z, hz1, hz2⟩ := ok2.prevOf (L := { y1.line with owner := c.a }) hl2 h7
                      simp only at hz1
                      rw [lineOf_ent] at hz1
                      cases h8 : entOf (putE xs1 i { y1.line with owner := c.a } y1.loc) y1.line.prev with
                      | none => rw [h8] at hz1; cases hz1
                      | some w =>
                        rw [h8] at hz1
                        have h9 : w.line = z := by simpa using hz1
                        have h10 := ok2.id0 (w.id, w.line) (List.mem_map.2 ⟨w, (entOf_mem h8).1, rfl⟩)
                        simp only [(entOf_mem h8).2] at h10
                        exact .inr ⟨w, rfl, by rw [h9]; exact hz2, by simp only; omega⟩
                  · simp only; omega
                  · rw [e5, ← hpr]
                    simp only [promFrom, hi0, if_false, hl1, h4', if_true]
                  · simp only; omega
                · have h4' : ¬ y1.line.owner = was := by simpa using h4
                  simp only [walk, walkL, evOp, quietOp, farOp, nov, gd, rho, putT, wr, Nat.reduceAdd, Nat.reduceSub, Bool.false_eq_true, if_true, if_false, reduceIte, reduceCtorEq, walkM, Int.reduceBEq, Int.reduceBNe, Int.reduceLT, Int.reduceLE, decide_true, decide_false, eq_self, Bool.not_true, Bool.not_false, ↓ev_fa, ↓ev_field, ↓ev_load, ↓ev_store, stO_cells, List.all_cons, List.all_nil, Bool.and_self, Bool.and_true]
                  refine W.done ?_
                  simp only [walk, walkL, evOp, quietOp, farOp, nov, gd, rho, putT, wr, Nat.reduceAdd, Nat.reduceSub, Bool.false_eq_true, if_true, if_false, reduceIte, reduceCtorEq, walkM, Int.reduceBEq, Int.reduceBNe, Int.reduceLT, Int.reduceLE, decide_true, decide_false, eq_self, Bool.not_true, Bool.not_false, ↓ev_fa, ↓ev_field, ↓ev_load, ↓ev_store, stO_cells, List.all_cons, List.all_nil, Bool.and_self, Bool.and_true, ta21, new, hget_hset', hset_length, and_false, false_and, and_true, true_and, and_self, Nat.reduceEqDiff, Nat.reduceLT, Nat.lt_irrefl, Nat.not_lt_zero, splice, zerosN, fillV, walkB, pureL, V.pure, Nat.reduceMul, Nat.reduceLeDiff, Nat.one_ne_zero, List.take_zero, List.drop_succ_cons, List.drop_zero, List.take_succ_cons, List.replicate_one, List.drop_nil, List.take_nil, Nat.le_refl, Nat.zero_add, Nat.zero_mul, Nat.one_mul, Nat.mul_one, hn1, g4]
                  exact W.done (EndK.ret (res_cell rfl rfl (hget_same (by first | exact F.lt | assumption | (simp only [hset_length]; first | exact F.lt | assumption))) (by rw [rd36]; rfl)) (finish (by simp [promFrom, hi0, hl1, h4']) _))
end Go.Proofs.Ytebbgmeomkjibaa
end
