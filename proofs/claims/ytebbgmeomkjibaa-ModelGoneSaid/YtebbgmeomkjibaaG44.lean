/- This file holds in one the texts O21, O22; each says at its head what it proves. -/
import Derived.Test.YtebbgmeomkjibaaG43
set_option linter.unusedSimpArgs false
set_option linter.unusedVariables false
section
/- model: clone. -/
set_option maxRecDepth 100000
namespace Go.Proofs.Ytebbgmeomkjibaa
open Go.AM Go.Mod

attribute [local irreducible] U W lineC

theorem clone_h : HSpec 20 hClone := by
  rintro H h S N c dv ⟨xs, kl, hh⟩ ok hN hc
  refine cr_of Try.func20 rfl ?_
  intro n K hn F
  have sdv := IsSl.scalar hc.data
  obtain ⟨bs, clk, hm, hb⟩ := hh.lmap
  have A := F.at_ hn hh.cell
  have B := F.at_ hn hm
  have hl0 := ok.last0
  have hl1 := ok.last1
  have lkl := fun g hg => lookup_lines (g := g) (mf := h.mf) (ms := h.ms) (l := xs) (bs := bs) (clk := clk) hg c.a
  have bad : ∀ (K2 : Heap) (e : Int), hClone S c = (S, fail e) → Ch H K2 [] → RepV (failV e) (hClone S c).2 ∧ HouseOut H K2 h (hClone S c).1 ∧ Aside H K2 := by
    intro K2 e he hch
    rw [he]; exact ⟨rep_fail e, ⟨xs, kl, hh.ch hch, hh.kOut⟩, .of_ch0 hch⟩
  have hw := hh.lines ▸ lineOf_ent xs c.a
  simp only [walk, walkL, evOp, quietOp, farOp, nov, gd, rho, putT, wr, Nat.reduceAdd, Nat.reduceSub, Bool.false_eq_true, if_true, if_false, reduceIte, reduceCtorEq, walkM, Int.reduceBEq, Int.reduceBNe, Int.reduceLT, Int.reduceLE, decide_true, decide_false, eq_self, Bool.not_true, Bool.not_false, ↓ev_fa, ↓ev_field, ↓ev_load, ↓ev_store, stO_cells, List.all_cons, List.all_nil, Bool.and_self, Bool.and_true, Try.ntmps20, ta20, new, hget_hset', hset_length, and_false, false_and, and_true, true_and, and_self, Nat.reduceEqDiff, Nat.reduceLT, Nat.lt_irrefl, Nat.not_lt_zero, splice, zerosN, fillV, walkB, pureL, V.pure, Nat.reduceMul, Nat.reduceLeDiff, Nat.one_ne_zero, List.take_zero, List.drop_succ_cons, List.drop_zero, List.take_succ_cons, List.replicate_one, List.drop_nil, List.take_nil, Nat.le_refl, Nat.zero_add, Nat.zero_mul, Nat.one_mul, Nat.mul_one, F.own, F.lt, sdv, A.get, A.ltK, B.get, B.ltK, lc_0, lc_1, lc_2, lc_3, lc_4, Nat.add_zero, callC, A.ne, B.ne, ↓lkl]
  refine W.opsK (by kernel_rfl) ?_
  cases hx : entOf xs c.a with
  | none =>
    rw [hx] at hw
    simp only [walk, walkL, evOp, quietOp, farOp, nov, gd, rho, putT, wr, Nat.reduceAdd, Nat.reduceSub, Bool.false_eq_true, if_true, if_false, reduceIte, reduceCtorEq, walkM, Int.reduceBEq, Int.reduceBNe, Int.reduceLT, Int.reduceLE, decide_true, decide_false, eq_self, Bool.not_true, Bool.not_false, ↓ev_fa, ↓ev_field, ↓ev_load, ↓ev_store, stO_cells, List.all_cons, List.all_nil, Bool.and_self, Bool.and_true, bn_pt0 Try.underlying57]
    refine W.pcall (fails_fz 6) rfl rfl rfl ?_
    rintro _ rfl
    simp only [walk, walkL, evOp, quietOp, farOp, nov, gd, rho, putT, wr, Nat.reduceAdd, Nat.reduceSub, Bool.false_eq_true, if_true, if_false, reduceIte, reduceCtorEq, walkM, Int.reduceBEq, Int.reduceBNe, Int.reduceLT, Int.reduceLE, decide_true, decide_false, eq_self, Bool.not_true, Bool.not_false, ↓ev_fa, ↓ev_field, ↓ev_load, ↓ev_store, stO_cells, List.all_cons, List.all_nil, Bool.and_self, Bool.and_true, failV, ta20, new, hget_hset', hset_length, and_false, false_and, and_true, true_and, and_self, Nat.reduceEqDiff, Nat.reduceLT, Nat.lt_irrefl, Nat.not_lt_zero, F.lt, splice, zerosN, fillV, walkB, pureL, V.pure, Nat.reduceMul, Nat.reduceLeDiff, Nat.one_ne_zero, List.take_zero, List.drop_succ_cons, List.drop_zero, List.take_succ_cons, List.replicate_one, List.drop_nil, List.take_nil, Nat.le_refl, Nat.zero_add, Nat.zero_mul, Nat.one_mul, Nat.mul_one]
    exact W.done (EndK.ret (res_cell rfl rfl (hget_same (by first | exact F.lt | assumption | (simp only [hset_length]; first | exact F.lt | assumption))) (by rw [rd36]; rfl)) (bad _ 6 (by rw [hClone, hw]; rfl) (F.ch hn (by first | rfl | simp only [hset_length]) (fun f' s' h => by first | rfl | simp only [hget_hset', hset_length, F.lt, Nat.ne_of_lt h, false_and, if_false, AM.lk, *, -hn]))))
  | some x =>
    rw [hx] at hw
    have hxm := (entOf_mem hx).1
    obtain ⟨l, bs1, clk1, hL⟩ := hh.line x hxm
    have X := F.at_ hn hL.cells
    have Xn := F.at_ hn hL.names
    have hw2 : hClone S c = if !x.line.snap then (S, fail 2) else (⟨S.last + 1, S.keys, S.lines ++ [(S.last + 1, { x.line with snap := false, prev := c.a, owner := S.last + 1 })]⟩, { fail 0 with id := S.last + 1 }) := by
      rw [hClone, hw]; simp only [Option.map_some]
    simp only [walk, walkL, evOp, quietOp, farOp, nov, gd, rho, putT, wr, Nat.reduceAdd, Nat.reduceSub, Bool.false_eq_true, if_true, if_false, reduceIte, reduceCtorEq, walkM, Int.reduceBEq, Int.reduceBNe, Int.reduceLT, Int.reduceLE, decide_true, decide_false, eq_self, Bool.not_true, Bool.not_false, ↓ev_fa, ↓ev_field, ↓ev_load, ↓ev_store, stO_cells, List.all_cons, List.all_nil, Bool.and_self, Bool.and_true, bn_pt1 Try.underlying57, ta20, new, hget_hset', hset_length, and_false, false_and, and_true, true_and, and_self, Nat.reduceEqDiff, Nat.reduceLT, Nat.lt_irrefl, Nat.not_lt_zero, zerosN, fillV, walkB, pureL, V.pure, Nat.reduceMul, Nat.reduceLeDiff, Nat.one_ne_zero, List.take_zero, List.drop_succ_cons, List.drop_zero, List.take_succ_cons, List.replicate_one, List.drop_nil, List.take_nil, Nat.le_refl, Nat.zero_add, Nat.zero_mul, Nat.one_mul, Nat.mul_one, F.lt, X.get, X.ne, A.get, A.ltK, B.get, B.ltK, lc_0, lc_1, lc_2, lc_3, lc_4, Nat.add_zero, callC]
    refine W.ite (fun h1 => ?_) (fun h1 => ?_)
    · rw [h1] at hw2
      simp only [walk, walkL, evOp, quietOp, farOp, nov, gd, rho, putT, wr, Nat.reduceAdd, Nat.reduceSub, Bool.false_eq_true, if_true, if_false, reduceIte, reduceCtorEq, walkM, Int.reduceBEq, Int.reduceBNe, Int.reduceLT, Int.reduceLE, decide_true, decide_false, eq_self, Bool.not_true, Bool.not_false, ↓ev_fa, ↓ev_field, ↓ev_load, ↓ev_store, stO_cells, List.all_cons, List.all_nil, Bool.and_self, Bool.and_true]
      refine W.pcall (fails_fz 2) rfl rfl rfl ?_
      rintro _ rfl
      simp only [walk, walkL, evOp, quietOp, farOp, nov, gd, rho, putT, wr, Nat.reduceAdd, Nat.reduceSub, Bool.false_eq_true, if_true, if_false, reduceIte, reduceCtorEq, walkM, Int.reduceBEq, Int.reduceBNe, Int.reduceLT, Int.reduceLE, decide_true, decide_false, eq_self, Bool.not_true, Bool.not_false, ↓ev_fa, ↓ev_field, ↓ev_load, ↓ev_store, stO_cells, List.all_cons, List.all_nil, Bool.and_self, Bool.and_true, failV, ta20, new, hget_hset', hset_length, and_false, false_and, and_true, true_and, and_self, Nat.reduceEqDiff, Nat.reduceLT, Nat.lt_irrefl, Nat.not_lt_zero, F.lt, splice, zerosN, fillV, walkB, pureL, V.pure, Nat.reduceMul, Nat.reduceLeDiff, Nat.one_ne_zero, List.take_zero, List.drop_succ_cons, List.drop_zero, List.take_succ_cons, List.replicate_one, List.drop_nil, List.take_nil, Nat.le_refl, Nat.zero_add, Nat.zero_mul, Nat.one_mul, Nat.mul_one]
      exact W.done (EndK.ret (res_cell rfl rfl (hget_same (by first | exact F.lt | assumption | (simp only [hset_length]; first | exact F.lt | assumption))) (by rw [rd36]; rfl)) (bad _ 2 hw2 (F.ch hn (by first | rfl | simp only [hset_length]) (fun f' s' h => by first | rfl | simp only [hget_hset', hset_length, F.lt, Nat.ne_of_lt h, false_and, if_false, AM.lk, *, -hn]))))
    · rw [h1] at hw2
      simp only [Bool.false_eq_true, if_false] at hw2
      have okL : LineOk x.line := ok.ok (x.id, x.line) (by rw [hh.lines]; exact List.mem_map.2 ⟨x, hxm, rfl⟩)
      simp only [walk, walkL, evOp, quietOp, farOp, nov, gd, rho, putT, wr, Nat.reduceAdd, Nat.reduceSub, Bool.false_eq_true, if_true, if_false, reduceIte, reduceCtorEq, walkM, Int.reduceBEq, Int.reduceBNe, Int.reduceLT, Int.reduceLE, decide_true, decide_false, eq_self, Bool.not_true, Bool.not_false, ↓ev_fa, ↓ev_field, ↓ev_load, ↓ev_store, stO_cells, List.all_cons, List.all_nil, Bool.and_self, Bool.and_true]
      refine W.call (twin_cr _ x.loc x.line okL l bs1 clk1 (hL.low (by rw [← hn]; exact (fun f s h => by simp only [hget_hset', hset_length, F.lt, Nat.ne_of_lt h, false_and, if_false]; exact F.low f s h)))) rfl rfl rfl rfl rfl ?_
      rintro _ J ⟨rfl, lq, ⟨l2, bs2, clk2, hL2⟩, cj⟩
      generalize hq : List.length (hset _ _ _ _) = q at *
      have hq1 : q = n + 1 := by rw [← hq]; simp only [hset_length]; exact F.len
      have lj : n < J.length := by omega
      have lowj : ∀ f s, f < n → hget J f s = hget H f s := fun f s h => by
        rw [cj.get f s (by rw [hq]; omega)]
        simp only [hget_hset', hset_length, F.lt, Nat.ne_of_lt h, false_and, if_false, lk]; exact F.low f s h
      have oj := fun s => cj.own (s := s) (f := n) (by rw [hq]; omega) (by simp)
      clear cj
      have j2 := hL2.cells
      have j2n := hL2.names
      simp only at j2 j2n
      have q1 : q < J.length := by omega
      have qn : ¬ n = q := by omega
      have qn' : ¬ q = n := by omega
      simp only [walk, walkL, evOp, quietOp, farOp, nov, gd, rho, putT, wr, Nat.reduceAdd, Nat.reduceSub, Bool.false_eq_true, if_true, if_false, reduceIte, reduceCtorEq, walkM, Int.reduceBEq, Int.reduceBNe, Int.reduceLT, Int.reduceLE, decide_true, decide_false, eq_self, Bool.not_true, Bool.not_false, ↓ev_fa, ↓ev_field, ↓ev_load, ↓ev_store, stO_cells, List.all_cons, List.all_nil, Bool.and_self, Bool.and_true, ta20, new, hget_hset', hset_length, and_false, false_and, and_true, true_and, and_self, Nat.reduceEqDiff, Nat.reduceLT, Nat.lt_irrefl, Nat.not_lt_zero, zerosN, fillV, walkB, pureL, V.pure, Nat.reduceMul, Nat.reduceLeDiff, Nat.one_ne_zero, List.take_zero, List.drop_succ_cons, List.drop_zero, List.take_succ_cons, List.replicate_one, List.drop_nil, List.take_nil, Nat.le_refl, Nat.zero_add, Nat.zero_mul, Nat.one_mul, Nat.mul_one, callC, j2, q1, qn, qn', oj, F.lt, st_snap (a := ⟨q, 3, q + 1, 7, x.loc.kf, x.loc.ks⟩) (sn := x.line.snap) (ow := x.line.owner) (pr := x.line.prev) (l := l2) (f := q) (s := 3) (b := false), st_prev (a := ⟨q, 3, q + 1, 7, x.loc.kf, x.loc.ks⟩) (sn := false) (ow := x.line.owner) (pr := x.line.prev) (l := l2) (f := q) (s := 3) (n := c.a)]
      refine W.opsC [(3, 6)] (by kernel_rfl) (by
        simp only [pairsOk, List.getD_cons_zero, List.getD_cons_succ, List.reverse_cons, List.reverse_nil, List.nil_append, List.cons_append, and_true]
        refine indep_ids (by simp) (by simp) ?_
        simp [idsOf, Op.operands, rho, V.id?, qn']) ?_
      simp only [walk, walkL, evOp, quietOp, farOp, nov, gd, rho, putT, wr, Nat.reduceAdd, Nat.reduceSub, Bool.false_eq_true, if_true, if_false, reduceIte, reduceCtorEq, walkM, Int.reduceBEq, Int.reduceBNe, Int.reduceLT, Int.reduceLE, decide_true, decide_false, eq_self, Bool.not_true, Bool.not_false, ↓ev_fa, ↓ev_field, ↓ev_load, ↓ev_store, stO_cells, List.all_cons, List.all_nil, Bool.and_self, Bool.and_true]
      have qm : ¬ h.mf = q := by have := B.lt; omega
      have qc : ¬ h.f = q := by have := A.lt; omega
      refine W.call (put_cr _ h.f h.s h.mf h.ms S.last (encL xs) bs clk _ (by simp only [hget_hset', hset_length, q1, qc, false_and, if_false]; exact (lowj _ _ A.lt).trans hh.cell) (by simp only [hget_hset', hset_length, q1, qm, false_and, if_false]; exact (lowj _ _ B.lt).trans hm) hl0 (by omega) (hh.newKey ok 0)) rfl rfl rfl rfl rfl ?_
      rintro _ J3 ⟨rfl, c3⟩
      have l3 : q < J3.length := c3.lt (by simp only [hset_length]; exact q1)
      have ln3 : n < J3.length := by omega
      have o3 : ∀ s, hget J3 n s = hget J n s := fun s => (c3.own (s := s) (f := n) (by simp only [hset_length]; exact lj) (low_hm A.lt B.lt)).trans (by simp only [hget_hset', hset_length, q1, qn, false_and, if_false])
      have low3 : ∀ f s, f < n → ¬ (f = h.f ∧ s = h.s) → ¬ (f = h.mf ∧ s = h.ms) → hget J3 f s = hget H f s := fun f s h1 h2 h3 => by
        have fq : ¬ f = q := by omega
        rw [c3.get f s (by simp only [hset_length]; omega)]
        simp only [lk, h2, h3, if_false, hget_hset', hset_length, q1, fq, false_and]
        exact lowj f s h1
      have jm : hget J3 h.mf h.ms = some (.map (encL xs ++ [(.int .i64 (S.last + 1), .ptr q 3 0)]) (bs ++ [clk]) (clk + 1)) := by
        rw [c3.get _ _ (by simp only [hset_length]; have := B.lt; omega)]; simp only [lk, and_self, if_true]
      have jc : hget J3 h.f h.s = some (.cells [.int .i64 (S.last + 1), .map h.mf h.ms]) := by
        rw [c3.get _ _ (by simp only [hset_length]; have := A.lt; omega)]; simp only [lk, map_cells_ne hh.cell hm, and_self, if_true, if_false]
      have jq : hget J3 q 3 = _ := (c3.own (f := q) (s := 3) (by simp only [hset_length]; exact q1) (low_hm (by have := A.lt; omega) (by have := B.lt; omega))).trans (hget_same (by simp only [hset_length]; exact q1))
      have q2 : ¬ q + 1 = q := by omega
      have jqn : hget J3 (q + 1) 7 = _ := (c3.own (f := q + 1) (s := 7) (by simp only [hset_length]; exact lq) (low_hm (by have := A.lt; omega) (by have := B.lt; omega))).trans ((by simp only [hget_hset', hset_length, q1, q2, false_and, if_false] : hget _ (q + 1) 7 = hget J (q + 1) 7).trans j2n)
      clear c3
      simp only [walk, walkL, evOp, quietOp, farOp, nov, gd, rho, putT, wr, Nat.reduceAdd, Nat.reduceSub, Bool.false_eq_true, if_true, if_false, reduceIte, reduceCtorEq, walkM, Int.reduceBEq, Int.reduceBNe, Int.reduceLT, Int.reduceLE, decide_true, decide_false, eq_self, Bool.not_true, Bool.not_false, ↓ev_fa, ↓ev_field, ↓ev_load, ↓ev_store, stO_cells, List.all_cons, List.all_nil, Bool.and_self, Bool.and_true, ta20, new, hget_hset', hset_length, and_false, false_and, and_true, true_and, and_self, Nat.reduceEqDiff, Nat.reduceLT, Nat.lt_irrefl, Nat.not_lt_zero, splice, zerosN, fillV, walkB, pureL, V.pure, Nat.reduceMul, Nat.reduceLeDiff, Nat.one_ne_zero, List.take_zero, List.drop_succ_cons, List.drop_zero, List.take_succ_cons, List.replicate_one, List.drop_nil, List.take_nil, Nat.le_refl, Nat.zero_add, Nat.zero_mul, Nat.one_mul, Nat.mul_one, jq, l3, qn, qn', st_owner (a := ⟨q, 3, q + 1, 7, x.loc.kf, x.loc.ks⟩) (sn := false) (ow := x.line.owner) (pr := c.a) (l := l2) (f := q) (s := 3) (n := S.last + 1), lc_1, ln3, o3, oj, F.lt]
      refine W.done (EndK.ret (res_cell rfl rfl (hget_same (by first | exact F.lt | assumption | (simp only [hset_length]; first | exact F.lt | assumption))) (by rw [rd36]; rfl)) ?_)
      rw [popF_keepM (f := h.mf) (s := h.ms) B.lt (by
        simp only [hget_hset', hset_length, ln3, l3, B.ne, qm, false_and, if_false]; exact jm) (by omega)]
      rw [hw2]
      refine ⟨⟨.nilslice, .nilslice, .nilslice, rfl, IsBytes.nil, IsSl.nil, IsInts.nil⟩, ⟨xs ++ [⟨S.last + 1, { x.line with snap := false, prev := c.a, owner := S.last + 1 }, ⟨q, 3, q + 1, 7, x.loc.kf, x.loc.ks⟩⟩], kl, ?_, hh.kOut⟩, ⟨by simp only [hset_length]; omega, fun f s o g1 g2 => ?_⟩⟩
      rotate_left
      · have hf := hget_lt g1
        have fn : ¬ f = n := by omega
        have fq : ¬ f = q := by omega
        simp only [hget_hset', hset_length, ln3, l3, fn, fq, false_and, if_false]
        rw [low3 f s (by omega) (aside_ne g1 g2 hh.cell rfl) (aside_ne g1 g2 hm rfl)]; exact g1
      have := hh.grow (H' := hset (hset J3 q 3 (.cells (lineC ⟨q, 3, q + 1, 7, x.loc.kf, x.loc.ks⟩ false (S.last + 1) c.a l2))) n 4 (.cells [.int .i64 0, .int .i64 (S.last + 1), .nilslice, .nilslice, .int .i64 0, .int .u8 0, .int .i64 0, .int .i64 0, .str [], .nilslice])) (kn := none) (x := ⟨S.last + 1, { x.line with snap := false, prev := c.a, owner := S.last + 1 }, ⟨q, 3, q + 1, 7, x.loc.kf, x.loc.ks⟩⟩) (fun f s h1 h2 h3 => by
          have fq : ¬ f = q := by omega
          have fn : ¬ f = n := by omega
          simp only [hget_hset', hset_length, ln3, l3, fq, fn, false_and, if_false]
          exact low3 f s (by omega) h2 h3) (by simp only [hget_hset', hset_length, ln3, l3, A.ne, qc, false_and, if_false]; exact jc) ⟨bs ++ [clk], clk + 1, by simp only [hget_hset', hset_length, ln3, l3, B.ne, qm, false_and, if_false]; rw [encL_app]; exact jm, hb.add⟩
          ⟨l2, bs2, clk2, hL2.obs, by simp only [hget_hset', hset_length, ln3, l3, qn', false_and, and_self, if_true, if_false], by simp only [hget_hset', hset_length, ln3, l3, q2, show ¬ q + 1 = n by omega, false_and, if_false]; exact jqn, hL2.born⟩ (by simp only; omega) (by simp only; omega) (by simp) (by
            simp only [Option.map_none, Option.toList_none, List.append_nil]
            exact hh.key x hxm)
      simpa only [Option.map_none, Option.toList_none, List.append_nil] using this
end Go.Proofs.Ytebbgmeomkjibaa
end
section
/- model: roll. -/
set_option maxRecDepth 100000
namespace Go.Proofs.Ytebbgmeomkjibaa
open Go.AM Go.Mod

attribute [local irreducible] U W lineC

section
variable {a : Loc} {sn : Bool} {ow pr : Int} {l l2 : List Ob} {m : List MObj} {f s : Nat}
unseal lineC in
theorem ra_objs (h : l.length = 16) : readAt Try.prog 65 (lineC a sn ow pr l) 5 = some (.agg (obs l)) := by
  rw [rd65, if_pos (by rw [lc_len]; omega)]
  simp only [lineC, List.drop_succ_cons, List.drop_zero]
  rw [List.take_of_length_le (by rw [obs_length]; omega)]
theorem ob_cells (h : ObsAt l m) : (V.agg (obs l)).cells = some (obs l) := by
  rw [cells_agg, if_pos (obs_scalar l h.scalar)]
unseal lineC in
theorem st_objs (h : l.length = 16) (h2 : l2.length = 16) : stO 48 f s 5 (obs l2) (some (.cells (lineC a sn ow pr l))) = some (.val .bad (some (f, s, .cells (lineC a sn ow pr l2)))) := by
  rw [stO_cells, if_pos ⟨by rw [obs_length]; omega, by rw [lc_len]; omega⟩]
  unfold splice
  simp only [lineC, List.take_succ_cons, List.take_zero, List.cons_append, List.nil_append]
  rw [show 5 + (obs l2).length = (obs l2).length + 1 + 1 + 1 + 1 + 1 by omega]
  simp only [List.drop_succ_cons]
  rw [List.drop_of_length_le (by rw [obs_length, obs_length]; omega), List.append_nil]
unseal lineC in
theorem lc_refs {p : Nat → Nat → Bool} (h : p a.nf a.ns = true) : (O.cells (lineC a sn ow pr l)).refs p = true := by
  simp only [O.refs, lineC, refsL, V.refs, h, Bool.true_or, Bool.or_true]
end

theorem roll_h : HSpec 22 hRoll := by
  rintro H h S N c dv ⟨xs, kl, hh⟩ ok hN hc
  refine cr_of Try.func22 rfl ?_
  intro n K hn F
  have sdv := IsSl.scalar hc.data
  obtain ⟨bs, clk, hm, hb⟩ := hh.lmap
  have A := F.at_ hn hh.cell
  have B := F.at_ hn hm
  have lkl := fun g hg => lookup_lines (g := g) (mf := h.mf) (ms := h.ms) (l := xs) (bs := bs) (clk := clk) hg c.a
  have bad : ∀ (K2 : Heap) (e : Int), hRoll S c = (S, fail e) → Ch H K2 [] → RepV (failV e) (hRoll S c).2 ∧ HouseOut H K2 h (hRoll S c).1 ∧ Aside H K2 := by
    intro K2 e he hch
    rw [he]; exact ⟨rep_fail e, ⟨xs, kl, hh.ch hch, hh.kOut⟩, .of_ch0 hch⟩
  have hw := hh.lines ▸ lineOf_ent xs c.a
  simp only [walk, walkL, evOp, quietOp, farOp, nov, gd, rho, putT, wr, Nat.reduceAdd, Nat.reduceSub, Bool.false_eq_true, if_true, if_false, reduceIte, reduceCtorEq, walkM, Int.reduceBEq, Int.reduceBNe, Int.reduceLT, Int.reduceLE, decide_true, decide_false, eq_self, Bool.not_true, Bool.not_false, ↓ev_fa, ↓ev_field, ↓ev_load, ↓ev_store, stO_cells, List.all_cons, List.all_nil, Bool.and_self, Bool.and_true, Try.ntmps22, ta22, new, hget_hset', hset_length, and_false, false_and, and_true, true_and, and_self, Nat.reduceEqDiff, Nat.reduceLT, Nat.lt_irrefl, Nat.not_lt_zero, splice, zerosN, fillV, walkB, pureL, V.pure, Nat.reduceMul, Nat.reduceLeDiff, Nat.one_ne_zero, List.take_zero, List.drop_succ_cons, List.drop_zero, List.take_succ_cons, List.replicate_one, List.drop_nil, List.take_nil, Nat.le_refl, Nat.zero_add, Nat.zero_mul, Nat.one_mul, Nat.mul_one, F.own, F.lt, sdv, A.get, A.ltK, B.get, B.ltK, lc_0, lc_1, lc_2, lc_3, lc_4, Nat.add_zero, callC, A.ne, B.ne, ↓lkl]
  refine W.opsK (by kernel_rfl) ?_
  cases hx : entOf xs c.a with
  | none =>
    rw [hx] at hw
    simp only [walk, walkL, evOp, quietOp, farOp, nov, gd, rho, putT, wr, Nat.reduceAdd, Nat.reduceSub, Bool.false_eq_true, if_true, if_false, reduceIte, reduceCtorEq, walkM, Int.reduceBEq, Int.reduceBNe, Int.reduceLT, Int.reduceLE, decide_true, decide_false, eq_self, Bool.not_true, Bool.not_false, ↓ev_fa, ↓ev_field, ↓ev_load, ↓ev_store, stO_cells, List.all_cons, List.all_nil, Bool.and_self, Bool.and_true, bn_pt0 Try.underlying57]
    refine W.pcall (fails_fz 6) rfl rfl rfl ?_
    rintro _ rfl
    simp only [walk, walkL, evOp, quietOp, farOp, nov, gd, rho, putT, wr, Nat.reduceAdd, Nat.reduceSub, Bool.false_eq_true, if_true, if_false, reduceIte, reduceCtorEq, walkM, Int.reduceBEq, Int.reduceBNe, Int.reduceLT, Int.reduceLE, decide_true, decide_false, eq_self, Bool.not_true, Bool.not_false, ↓ev_fa, ↓ev_field, ↓ev_load, ↓ev_store, stO_cells, List.all_cons, List.all_nil, Bool.and_self, Bool.and_true, failV, ta22, new, hget_hset', hset_length, and_false, false_and, and_true, true_and, and_self, Nat.reduceEqDiff, Nat.reduceLT, Nat.lt_irrefl, Nat.not_lt_zero, F.lt, splice, zerosN, fillV, walkB, pureL, V.pure, Nat.reduceMul, Nat.reduceLeDiff, Nat.one_ne_zero, List.take_zero, List.drop_succ_cons, List.drop_zero, List.take_succ_cons, List.replicate_one, List.drop_nil, List.take_nil, Nat.le_refl, Nat.zero_add, Nat.zero_mul, Nat.one_mul, Nat.mul_one]
    exact W.done (EndK.ret (res_cell rfl rfl (hget_same (by first | exact F.lt | assumption | (simp only [hset_length]; first | exact F.lt | assumption))) (by rw [rd36]; rfl)) (bad _ 6 (by rw [hRoll, hw]; rfl) (F.ch hn (by first | rfl | simp only [hset_length]) (fun f' s' h => by first | rfl | simp only [hget_hset', hset_length, F.lt, Nat.ne_of_lt h, false_and, if_false, AM.lk, *, -hn]))))
  | some x =>
    rw [hx] at hw
    have hxm := (entOf_mem hx).1
    obtain ⟨l, bs1, clk1, hL⟩ := hh.line x hxm
    have X := F.at_ hn hL.cells
    have Xn := F.at_ hn hL.names
    have hw2 : hRoll S c = if x.line.snap then (S, fail 202) else if x.line.prev = 0 then (S, fail 2) else match lineOf S.lines x.line.prev with
      | none => (S, fail 2)
      | some y => ({ S with lines := putL S.lines c.a { x.line with names := y.names, objs := y.objs } }, fail 0) := by
      rw [hRoll, hw]; simp only [Option.map_some]; rfl
    simp only [walk, walkL, evOp, quietOp, farOp, nov, gd, rho, putT, wr, Nat.reduceAdd, Nat.reduceSub, Bool.false_eq_true, if_true, if_false, reduceIte, reduceCtorEq, walkM, Int.reduceBEq, Int.reduceBNe, Int.reduceLT, Int.reduceLE, decide_true, decide_false, eq_self, Bool.not_true, Bool.not_false, ↓ev_fa, ↓ev_field, ↓ev_load, ↓ev_store, stO_cells, List.all_cons, List.all_nil, Bool.and_self, Bool.and_true, bn_pt1 Try.underlying57, ta22, new, hget_hset', hset_length, and_false, false_and, and_true, true_and, and_self, Nat.reduceEqDiff, Nat.reduceLT, Nat.lt_irrefl, Nat.not_lt_zero, zerosN, fillV, walkB, pureL, V.pure, Nat.reduceMul, Nat.reduceLeDiff, Nat.one_ne_zero, List.take_zero, List.drop_succ_cons, List.drop_zero, List.take_succ_cons, List.replicate_one, List.drop_nil, List.take_nil, Nat.le_refl, Nat.zero_add, Nat.zero_mul, Nat.one_mul, Nat.mul_one, F.lt, X.get, X.ne, A.get, A.ltK, B.get, B.ltK, lc_0, lc_1, lc_2, lc_3, lc_4, Nat.add_zero, callC]
    refine W.ite (fun h1 => ?_) (fun h1 => ?_)
    · rw [h1] at hw2
      simp only [walk, walkL, evOp, quietOp, farOp, nov, gd, rho, putT, wr, Nat.reduceAdd, Nat.reduceSub, Bool.false_eq_true, if_true, if_false, reduceIte, reduceCtorEq, walkM, Int.reduceBEq, Int.reduceBNe, Int.reduceLT, Int.reduceLE, decide_true, decide_false, eq_self, Bool.not_true, Bool.not_false, ↓ev_fa, ↓ev_field, ↓ev_load, ↓ev_store, stO_cells, List.all_cons, List.all_nil, Bool.and_self, Bool.and_true]
      refine W.pcall (fails_fz 202) rfl rfl rfl ?_
      rintro _ rfl
      simp only [walk, walkL, evOp, quietOp, farOp, nov, gd, rho, putT, wr, Nat.reduceAdd, Nat.reduceSub, Bool.false_eq_true, if_true, if_false, reduceIte, reduceCtorEq, walkM, Int.reduceBEq, Int.reduceBNe, Int.reduceLT, Int.reduceLE, decide_true, decide_false, eq_self, Bool.not_true, Bool.not_false, ↓ev_fa, ↓ev_field, ↓ev_load, ↓ev_store, stO_cells, List.all_cons, List.all_nil, Bool.and_self, Bool.and_true, failV, ta22, new, hget_hset', hset_length, and_false, false_and, and_true, true_and, and_self, Nat.reduceEqDiff, Nat.reduceLT, Nat.lt_irrefl, Nat.not_lt_zero, F.lt, splice, zerosN, fillV, walkB, pureL, V.pure, Nat.reduceMul, Nat.reduceLeDiff, Nat.one_ne_zero, List.take_zero, List.drop_succ_cons, List.drop_zero, List.take_succ_cons, List.replicate_one, List.drop_nil, List.take_nil, Nat.le_refl, Nat.zero_add, Nat.zero_mul, Nat.one_mul, Nat.mul_one]
      exact W.done (EndK.ret (res_cell rfl rfl (hget_same (by first | exact F.lt | assumption | (simp only [hset_length]; first | exact F.lt | assumption))) (by rw [rd36]; rfl)) (bad _ 202 hw2 (F.ch hn (by first | rfl | simp only [hset_length]) (fun f' s' h => by first | rfl | simp only [hget_hset', hset_length, F.lt, Nat.ne_of_lt h, false_and, if_false, AM.lk, *, -hn]))))
    · rw [h1] at hw2
      simp only [Bool.false_eq_true, if_false] at hw2
      simp only [walk, walkL, evOp, quietOp, farOp, nov, gd, rho, putT, wr, Nat.reduceAdd, Nat.reduceSub, Bool.false_eq_true, if_true, if_false, reduceIte, reduceCtorEq, walkM, Int.reduceBEq, Int.reduceBNe, Int.reduceLT, Int.reduceLE, decide_true, decide_false, eq_self, Bool.not_true, Bool.not_false, ↓ev_fa, ↓ev_field, ↓ev_load, ↓ev_store, stO_cells, List.all_cons, List.all_nil, Bool.and_self, Bool.and_true, bn_pt1 Try.underlying57, ta22, new, hget_hset', hset_length, and_false, false_and, and_true, true_and, and_self, Nat.reduceEqDiff, Nat.reduceLT, Nat.lt_irrefl, Nat.not_lt_zero, zerosN, fillV, walkB, pureL, V.pure, Nat.reduceMul, Nat.reduceLeDiff, Nat.one_ne_zero, List.take_zero, List.drop_succ_cons, List.drop_zero, List.take_succ_cons, List.replicate_one, List.drop_nil, List.take_nil, Nat.le_refl, Nat.zero_add, Nat.zero_mul, Nat.one_mul, Nat.mul_one, F.lt, X.get, X.ne, A.get, A.ltK, B.get, B.ltK, lc_0, lc_1, lc_2, lc_3, lc_4, Nat.add_zero, callC]
      refine W.ite (fun h2 => ?_) (fun h2 => ?_)
      · have h2' : x.line.prev = 0 := by simpa using h2
        rw [if_pos h2'] at hw2
        simp only [walk, walkL, evOp, quietOp, farOp, nov, gd, rho, putT, wr, Nat.reduceAdd, Nat.reduceSub, Bool.false_eq_true, if_true, if_false, reduceIte, reduceCtorEq, walkM, Int.reduceBEq, Int.reduceBNe, Int.reduceLT, Int.reduceLE, decide_true, decide_false, eq_self, Bool.not_true, Bool.not_false, ↓ev_fa, ↓ev_field, ↓ev_load, ↓ev_store, stO_cells, List.all_cons, List.all_nil, Bool.and_self, Bool.and_true]
        refine W.pcall (fails_fz 2) rfl rfl rfl ?_
        rintro _ rfl
        simp only [walk, walkL, evOp, quietOp, farOp, nov, gd, rho, putT, wr, Nat.reduceAdd, Nat.reduceSub, Bool.false_eq_true, if_true, if_false, reduceIte, reduceCtorEq, walkM, Int.reduceBEq, Int.reduceBNe, Int.reduceLT, Int.reduceLE, decide_true, decide_false, eq_self, Bool.not_true, Bool.not_false, ↓ev_fa, ↓ev_field, ↓ev_load, ↓ev_store, stO_cells, List.all_cons, List.all_nil, Bool.and_self, Bool.and_true, failV, ta22, new, hget_hset', hset_length, and_false, false_and, and_true, true_and, and_self, Nat.reduceEqDiff, Nat.reduceLT, Nat.lt_irrefl, Nat.not_lt_zero, F.lt, splice, zerosN, fillV, walkB, pureL, V.pure, Nat.reduceMul, Nat.reduceLeDiff, Nat.one_ne_zero, List.take_zero, List.drop_succ_cons, List.drop_zero, List.take_succ_cons, List.replicate_one, List.drop_nil, List.take_nil, Nat.le_refl, Nat.zero_add, Nat.zero_mul, Nat.one_mul, Nat.mul_one]
        exact W.done (EndK.ret (res_cell rfl rfl (hget_same (by first | exact F.lt | assumption | (simp only [hset_length]; first | exact F.lt | assumption))) (by rw [rd36]; rfl)) (bad _ 2 hw2 (F.ch hn (by first | rfl | simp only [hset_length]) (fun f' s' h => by first | rfl | simp only [hget_hset', hset_length, F.lt, Nat.ne_of_lt h, false_and, if_false, AM.lk, *, -hn]))))
      · have h2' : ¬ x.line.prev = 0 := by simpa using h2
        rw [if_neg h2'] at hw2
        obtain ⟨yl, hy1, hy2⟩ := ok.prevOf (i := c.a) (L := x.line) (by rw [hw]; rfl) h2'
        have hy3 := hh.lines ▸ lineOf_ent xs x.line.prev
        rw [hy1] at hy3 hw2
        cases hy : entOf xs x.line.prev with
        | none => rw [hy] at hy3; cases hy3
        | some y =>
          rw [hy] at hy3
          have e1 : yl = y.line := by simpa using hy3
          subst e1
          have hym := (entOf_mem hy).1
          obtain ⟨ly, bsy, clky, hLy⟩ := hh.line y hym
          have okY : LineOk y.line := ok.ok (y.id, y.line) (by rw [hh.lines]; exact List.mem_map.2 ⟨y, hym, rfl⟩)
          have okX : LineOk x.line := ok.ok (x.id, x.line) (by rw [hh.lines]; exact List.mem_map.2 ⟨x, hxm, rfl⟩)
          have lkp := fun g hg => lookup_lines (g := g) (mf := h.mf) (ms := h.ms) (l := xs) (bs := bs) (clk := clk) hg x.line.prev
          rw [hy] at lkp
          simp only [walk, walkL, evOp, quietOp, farOp, nov, gd, rho, putT, wr, Nat.reduceAdd, Nat.reduceSub, Bool.false_eq_true, if_true, if_false, reduceIte, reduceCtorEq, walkM, Int.reduceBEq, Int.reduceBNe, Int.reduceLT, Int.reduceLE, decide_true, decide_false, eq_self, Bool.not_true, Bool.not_false, ↓ev_fa, ↓ev_field, ↓ev_load, ↓ev_store, stO_cells, List.all_cons, List.all_nil, Bool.and_self, Bool.and_true, bn_pt1 Try.underlying57, ta22, new, hget_hset', hset_length, and_false, false_and, and_true, true_and, and_self, Nat.reduceEqDiff, Nat.reduceLT, Nat.lt_irrefl, Nat.not_lt_zero, zerosN, fillV, walkB, pureL, V.pure, Nat.reduceMul, Nat.reduceLeDiff, Nat.one_ne_zero, List.take_zero, List.drop_succ_cons, List.drop_zero, List.take_succ_cons, List.replicate_one, List.drop_nil, List.take_nil, Nat.le_refl, Nat.zero_add, Nat.zero_mul, Nat.one_mul, Nat.mul_one, F.lt, X.get, X.ne, A.ne, B.ne, A.get, A.ltK, B.get, B.ltK, lc_0, lc_1, lc_2, lc_3, lc_4, Nat.add_zero, callC, ↓lkp]
          refine W.callT (twin_cr _ y.loc y.line okY ly bsy clky (hLy.low (by rw [← hn]; exact (fun f s h => by simp only [hget_hset', hset_length, F.lt, Nat.ne_of_lt h, false_and, if_false]; exact F.low f s h)))) rfl rfl rfl rfl rfl ?_
          rintro _ J ⟨rfl, lq, ⟨l2, bs2, clk2, hL2⟩, cj⟩
          generalize hq : List.length (hset _ _ _ _) = q at *
          have hq1 : q = n + 1 := by rw [← hq]; simp only [hset_length]; exact F.len
          have lj : n < J.length := by omega
          have lowj : ∀ f s, f < n → hget J f s = hget H f s := fun f s h => by
            rw [cj.get f s (by rw [hq]; omega)]
            simp only [hget_hset', hset_length, F.lt, Nat.ne_of_lt h, false_and, if_false, lk]; exact F.low f s h
          have oj := fun s => cj.own (s := s) (f := n) (by rw [hq]; omega) (by simp)
          have j4 : hget J n 4 = _ := (oj 4).trans (hget_same (by simp only [hset_length]; exact F.lt))
          clear cj
          have j2 := hL2.cells
          have j2n := hL2.names
          simp only at j2 j2n
          have l216 : l2.length = 16 := by rw [hL2.obs.len]; exact okY.n16
          have l16 : l.length = 16 := by rw [hL.obs.len]; exact okX.n16
          have q1 : q < J.length := by omega
          have jx : hget J x.loc.f x.loc.s = _ := (lowj _ _ X.lt).trans hL.cells
          have lx : x.loc.f < J.length := by have := X.lt; omega
          have xq : ¬ q = x.loc.f := by have := X.lt; omega
          have xn : ¬ n = x.loc.f := by have := X.lt; omega
          simp only [walk, walkL, evOp, quietOp, farOp, nov, gd, rho, putT, wr, Nat.reduceAdd, Nat.reduceSub, Bool.false_eq_true, if_true, if_false, reduceIte, reduceCtorEq, walkM, Int.reduceBEq, Int.reduceBNe, Int.reduceLT, Int.reduceLE, decide_true, decide_false, eq_self, Bool.not_true, Bool.not_false, ↓ev_fa, ↓ev_field, ↓ev_load, ↓ev_store, stO_cells, List.all_cons, List.all_nil, Bool.and_self, Bool.and_true]
          refine W.opsK (by kernel_rfl) ?_
          simp only [walk, walkL, evOp, quietOp, farOp, nov, gd, rho, putT, wr, Nat.reduceAdd, Nat.reduceSub, Bool.false_eq_true, if_true, if_false, reduceIte, reduceCtorEq, walkM, Int.reduceBEq, Int.reduceBNe, Int.reduceLT, Int.reduceLE, decide_true, decide_false, eq_self, Bool.not_true, Bool.not_false, ↓ev_fa, ↓ev_field, ↓ev_load, ↓ev_store, stO_cells, List.all_cons, List.all_nil, Bool.and_self, Bool.and_true, ta22, new, hget_hset', hset_length, and_false, false_and, and_true, true_and, and_self, Nat.reduceEqDiff, Nat.reduceLT, Nat.lt_irrefl, Nat.not_lt_zero, zerosN, fillV, walkB, pureL, V.pure, Nat.reduceMul, Nat.reduceLeDiff, Nat.one_ne_zero, List.take_zero, List.drop_succ_cons, List.drop_zero, List.take_succ_cons, List.replicate_one, List.drop_nil, List.take_nil, Nat.le_refl, Nat.zero_add, Nat.zero_mul, Nat.one_mul, Nat.mul_one, j2, jx, q1, lx, xq, lc_4, ra_objs l216, ob_cells hL2.obs, st_names (a := x.loc) (sn := x.line.snap) (ow := x.line.owner) (pr := x.line.prev) (l := l) (f := x.loc.f) (s := x.loc.s) (nf := q + 1) (ns := 7), st_objs (a := { x.loc with nf := q + 1, ns := 7 }) (sn := x.line.snap) (ow := x.line.owner) (pr := x.line.prev) (f := x.loc.f) (s := x.loc.s) l16 l216]
          refine W.opsK (by kernel_rfl) ?_
          simp only [walk, walkL, evOp, quietOp, farOp, nov, gd, rho, putT, wr, Nat.reduceAdd, Nat.reduceSub, Bool.false_eq_true, if_true, if_false, reduceIte, reduceCtorEq, walkM, Int.reduceBEq, Int.reduceBNe, Int.reduceLT, Int.reduceLE, decide_true, decide_false, eq_self, Bool.not_true, Bool.not_false, ↓ev_fa, ↓ev_field, ↓ev_load, ↓ev_store, stO_cells, List.all_cons, List.all_nil, Bool.and_self, Bool.and_true, ta22, new, hget_hset', hset_length, and_false, false_and, and_true, true_and, and_self, Nat.reduceEqDiff, Nat.reduceLT, Nat.lt_irrefl, Nat.not_lt_zero, splice, zerosN, fillV, walkB, pureL, V.pure, Nat.reduceMul, Nat.reduceLeDiff, Nat.one_ne_zero, List.take_zero, List.drop_succ_cons, List.drop_zero, List.take_succ_cons, List.replicate_one, List.drop_nil, List.take_nil, Nat.le_refl, Nat.zero_add, Nat.zero_mul, Nat.one_mul, Nat.mul_one, lj, lx, xn, j4]
          refine W.done (EndK.ret (res_cell rfl rfl (hget_same (by first | exact F.lt | assumption | (simp only [hset_length]; first | exact F.lt | assumption))) (by rw [rd36]; rfl)) ?_)
          rw [popF_keep2 (f := x.loc.f) (s := x.loc.s) X.lt (by rw [hget_frame (by simp only [hset_length]; exact lj) X.ne, hget_same (by simp only [hset_length]; exact lx)]) (lc_refs (by simp; omega))]
          rw [hw2]
          refine ⟨rep_fail 0, ⟨_, _, (hh.low (H' := H) fun _ _ _ => rfl).line_new (hh.uniq ok) hx (nf := q + 1) (ns := 7) (by omega) (L' := { x.line with names := y.line.names, objs := y.line.objs }) ⟨l2, bs2, clk2, hL2.obs, ?_, ?_, hL2.born⟩ (fun f s hf hne => ?_) rfl, hh.kOut⟩, ⟨by simp only [hset_length]; omega, fun f s o g1 g2 => ?_⟩⟩
          · simp only [hget_hset', hset_length, lj, lx, X.ne, and_self, if_true, false_and, if_false]
          · simp only [hget_hset', hset_length, lj, lx, show ¬ q + 1 = n by omega, show ¬ q + 1 = x.loc.f by have := X.lt; omega, false_and, if_false]
            exact j2n
          · simp only [hget_hset', hset_length, lj, lx, show ¬ f = n by omega, hne, false_and, if_false]
            exact lowj f s (by omega)
          · have hf := hget_lt g1
            have fx := aside_ne g1 g2 hL.cells (as_line l16)
            simp only [hget_hset', hset_length, lj, lx, show ¬ f = n by omega, fx, false_and, if_false]
            rw [lowj f s (by omega)]; exact g1
end Go.Proofs.Ytebbgmeomkjibaa
end
