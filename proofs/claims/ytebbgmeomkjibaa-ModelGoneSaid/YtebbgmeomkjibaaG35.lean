/- This file holds in one the texts O8; each says at its head what it proves. -/
import Derived.Test.YtebbgmeomkjibaaG34
set_option linter.unusedSimpArgs false
set_option linter.unusedVariables false
section
/- model: unlink, rename, write, cut. -/
set_option maxRecDepth 100000
namespace Go.Proofs.Ytebbgmeomkjibaa
open Go.AM Go.Mod

attribute [local irreducible] U W lineC

theorem num_range {L : MLine} (ok : LineOk L) (s : Bytes) : 0 ≤ (numOf L.names s).getD 0 ∧ (numOf L.names s).getD 0 < 16 := by
  cases h : numOf L.names s with
  | none => exact ⟨Int.le_refl _, by decide⟩
  | some x => have := ok.num h; simp only [Option.getD_some]; omega

theorem unlink_l : LSpec 32 MLine.unlink := by
  rintro H a L c dv ok ⟨l, bs, clk, hL⟩ hc
  refine cr_of Try.func32 rfl ?_
  intro n K hn F
  have A := F.at_ hn hL.cells
  have B := F.at_ hn hL.names
  have sdv := IsSl.scalar hc.data
  have lk := fun g h => lookup_names (g := g) (nf := a.nf) (ns := a.ns) (l := L.names) (bs := bs) (clk := clk) h c.name
  have hm0 := num_range ok c.name
  generalize hm : (numOf L.names c.name).getD 0 = m at *
  obtain ⟨o, ho, hk, hlk, hd⟩ := hL.obs.at_ (ok.at_ hm0.1 hm0.2)
  obtain ⟨bs', hb, hdel⟩ : ∃ bs', (∀ x, numOf L.names c.name = some x → Born (eraseN L.names c.name).length bs' clk) ∧ ∀ x, numOf L.names c.name = some x → ∀ g : Get, g a.nf a.ns = some (.map (encN L.names) bs clk) → deleteV Try.prog g 62 (.map a.nf a.ns) (.str c.name) = some (.val (.tuple []) (some (a.nf, a.ns, .map (encN (eraseN L.names c.name)) bs' clk))) := by
    cases h : numOf L.names c.name with
    | none => exact ⟨[], (fun x hx => nomatch hx), (fun x hx => nomatch hx)⟩
    | some x => obtain ⟨bs', h1, h2⟩ := del_names (nf := a.nf) (ns := a.ns) hL.born h; exact ⟨bs', fun _ _ => h1, fun _ _ => h2⟩
  let w : List (Nat × Nat × O) := [(a.f, a.s, .cells (lineC a L.snap L.owner L.prev (l.set m.toNat (lessV o)))), (a.nf, a.ns, .map (encN (eraseN L.names c.name)) bs' clk)]
  let E : Int := if (numOf L.names c.name).isSome then 0 else 6
  have fin : ∀ K2 : Heap, n < K2.length → (∀ f s, f < n → hget K2 f s = hget H f s) → hget K2 n 5 = some (.cells [.int .i64 m]) → hget K2 n 2 = some (.cells [.ptr a.f a.s 0]) → hget K2 n 3 = some (.cells (callC c dv)) → ∀ e, e = E →
      CR Try.prog pol 48 [.ptr a.f a.s 0, .int .i64 e, .func (.func 50) [] [.ptr n 2 0, .ptr n 3 0, .ptr n 5 0]] K2 fun v K3 => v = failV (turnE E L.snap) ∧ Ch K2 K3 (if turnE E L.snap = 0 then w else []) ∧ n < K3.length ∧ ∀ s, hget K3 n s = hget K2 n s := by
    intro K2 hlt low g6 g2 g3 e he
    subst he
    have hL2 := hL.low (K := K2) (by rw [← hn]; exact low)
    refine turned_n n K2 a L.snap L.owner L.prev l hL2.cells _ _ _ w rfl rfl rfl rfl hlt (low2 A.lt B.lt) (fun hz _ J cj => ?_)
    have hs : ∃ x, numOf L.names c.name = some x := by
      simp only [E] at hz
      cases h : numOf L.names c.name with
      | none => rw [h] at hz; simp at hz
      | some x => exact ⟨x, rfl⟩
    obtain ⟨x, hs⟩ := hs
    exact unlink1_cr J n a L l bs clk (hL2.ch cj) c dv m hm0.1 hm0.2 o ho A.lt B.lt ((cj.get _ _ hlt).trans g6) ((cj.get _ _ hlt).trans g2) ((cj.get _ _ hlt).trans g3) bs' (hdel x hs)
  have conc : ∀ H', Ch H H' (if turnE E L.snap = 0 then w else []) → RepV (failV (turnE E L.snap)) (L.unlink c).2 ∧ LineIn H' a (L.unlink c).1 ∧ Rest H H' a := by
    intro H' hch
    refine turn_conc hL hch fun hz _ h => ?_
    have hs : ∃ x, numOf L.names c.name = some x := by
      simp only [E] at hz
      cases h : numOf L.names c.name with
      | none => rw [h] at hz; simp at hz
      | some x => exact ⟨x, rfl⟩
    obtain ⟨x, hs⟩ := hs
    rw [hm]
    refine line_upd (hget_lt hL.cells) (hget_lt hL.names) h ?_ (l' := l.set m.toNat (lessV o)) (bs' := bs') (clk' := clk) ?_ ?_ ?_ ?_
    · intro x hx; simp only [w, List.mem_cons, List.not_mem_nil, or_false] at hx; rcases hx with rfl | rfl <;> simp
    · simp only [w, AM.lk, and_self, if_true, MLine.setOb]
    · simp only [w, AM.lk, hL.ne2, and_self, if_true, if_false]
    · refine hL.obs.set _ ?_
      unfold lessV
      rw [hlk]
      split
      · exact ⟨rfl, rfl, IsBytes.nil⟩
      · exact ⟨hk, rfl, hd⟩
    · exact hb x hs
  simp only [walk, walkL, evOp, quietOp, farOp, nov, gd, rho, putT, wr, Nat.reduceAdd, Nat.reduceSub, Bool.false_eq_true, if_true, if_false, reduceIte, reduceCtorEq, walkM, Int.reduceBEq, Int.reduceBNe, Int.reduceLT, Int.reduceLE, decide_true, decide_false, eq_self, Bool.not_true, Bool.not_false, ↓ev_fa, ↓ev_field, ↓ev_load, ↓ev_store, stO_cells, List.all_cons, List.all_nil, Bool.and_self, Bool.and_true, Try.ntmps32, ta32, new, hget_hset', hset_length, and_false, false_and, and_true, true_and, and_self, Nat.reduceEqDiff, Nat.reduceLT, Nat.lt_irrefl, Nat.not_lt_zero, splice, zerosN, fillV, walkB, pureL, V.pure, Nat.reduceMul, Nat.reduceLeDiff, Nat.one_ne_zero, List.take_zero, List.drop_succ_cons, List.drop_zero, List.take_succ_cons, List.replicate_one, List.drop_nil, List.take_nil, Nat.le_refl, Nat.zero_add, Nat.zero_mul, Nat.one_mul, Nat.mul_one, F.own, F.lt, callC, sdv, A.get, A.ltK, B.get, B.ltK, lc_0, lc_1, lc_2, lc_3, lc_4, Nat.add_zero, A.ne, B.ne, ↓lk, hm]
  refine W.opsC [(0, 10), (3, 10), (5, 10), (6, 10)] (by kernel_rfl) (by simp only [pairsOk, List.getD_cons_zero, List.getD_cons_succ, List.reverse_cons, List.reverse_nil, List.nil_append, List.cons_append, and_true]; refine ⟨?_, ?_, ?_, ?_⟩ <;> (refine indep_ids (by simp) (by simp) ?_; simp [idsOf, Op.operands, rho, V.id?, A.ne, B.ne, Ne.symm A.ne, Ne.symm B.ne])) ?_
  simp only [walk, walkL, evOp, quietOp, farOp, nov, gd, rho, putT, wr, Nat.reduceAdd, Nat.reduceSub, Bool.false_eq_true, if_true, if_false, reduceIte, reduceCtorEq, walkM, Int.reduceBEq, Int.reduceBNe, Int.reduceLT, Int.reduceLE, decide_true, decide_false, eq_self, Bool.not_true, Bool.not_false, ↓ev_fa, ↓ev_field, ↓ev_load, ↓ev_store, stO_cells, List.all_cons, List.all_nil, Bool.and_self, Bool.and_true]
  refine W.ite (fun h1 => ?_) (fun h1 => ?_)
  · simp only [walk, walkL, evOp, quietOp, farOp, nov, gd, rho, putT, wr, Nat.reduceAdd, Nat.reduceSub, Bool.false_eq_true, if_true, if_false, reduceIte, reduceCtorEq, walkM, Int.reduceBEq, Int.reduceBNe, Int.reduceLT, Int.reduceLE, decide_true, decide_false, eq_self, Bool.not_true, Bool.not_false, ↓ev_fa, ↓ev_field, ↓ev_load, ↓ev_store, stO_cells, List.all_cons, List.all_nil, Bool.and_self, Bool.and_true, ta32, new, hget_hset', hset_length, and_false, false_and, and_true, true_and, and_self, Nat.reduceEqDiff, Nat.reduceLT, Nat.lt_irrefl, Nat.not_lt_zero, splice, zerosN, fillV, walkB, pureL, V.pure, Nat.reduceMul, Nat.reduceLeDiff, Nat.one_ne_zero, List.take_zero, List.drop_succ_cons, List.drop_zero, List.take_succ_cons, List.replicate_one, List.drop_nil, List.take_nil, Nat.le_refl, Nat.zero_add, Nat.zero_mul, Nat.one_mul, Nat.mul_one, F.own, F.lt]
    refine W.call (fin _ (by simp only [hset_length]; exact F.lt) (fun f s h => by simp only [hget_hset', hset_length, F.lt, Nat.ne_of_lt h, false_and, if_false]; exact F.low f s h) (by simp only [hget_hset', hset_length, F.lt, and_self, and_true, and_false, true_and, eq_self, if_true, if_false, Nat.reduceEqDiff, callC]; try rfl) (by simp only [hget_hset', hset_length, F.lt, and_self, and_true, and_false, true_and, eq_self, if_true, if_false, Nat.reduceEqDiff, callC]; try rfl) (by simp only [hget_hset', hset_length, F.lt, and_self, and_true, and_false, true_and, eq_self, if_true, if_false, Nat.reduceEqDiff, callC]; try rfl) _ (by
      simp only [E]
      cases h : numOf L.names c.name with
      | none => rfl
      | some x => rw [h] at h1; simp at h1)) rfl rfl rfl rfl rfl ?_
    rintro _ K3 ⟨rfl, c3, l3, o3⟩
    simp only [walk, walkL, evOp, quietOp, farOp, nov, gd, rho, putT, wr, Nat.reduceAdd, Nat.reduceSub, Bool.false_eq_true, if_true, if_false, reduceIte, reduceCtorEq, walkM, Int.reduceBEq, Int.reduceBNe, Int.reduceLT, Int.reduceLE, decide_true, decide_false, eq_self, Bool.not_true, Bool.not_false, ↓ev_fa, ↓ev_field, ↓ev_load, ↓ev_store, stO_cells, List.all_cons, List.all_nil, Bool.and_self, Bool.and_true, failV, ta32, new, hget_hset', hset_length, and_false, false_and, and_true, true_and, and_self, Nat.reduceEqDiff, Nat.reduceLT, Nat.lt_irrefl, Nat.not_lt_zero, l3, o3, F.lt, splice, zerosN, fillV, walkB, pureL, V.pure, Nat.reduceMul, Nat.reduceLeDiff, Nat.one_ne_zero, List.take_zero, List.drop_succ_cons, List.drop_zero, List.take_succ_cons, List.replicate_one, List.drop_nil, List.take_nil, Nat.le_refl, Nat.zero_add, Nat.zero_mul, Nat.one_mul, Nat.mul_one]
    exact W.done (EndK.ret (res_cell rfl rfl (hget_same (by first | exact F.lt | assumption | (simp only [hset_length]; first | exact F.lt | assumption))) (by rw [rd36]; rfl)) (conc _ (Ch.fin hn (fun f s h => by simp only [hget_hset', hset_length, F.lt, Nat.ne_of_lt h, false_and, if_false]; exact F.low f s h) (by simp only [hset_length]; exact F.lt) c3)))
  · simp only [walk, walkL, evOp, quietOp, farOp, nov, gd, rho, putT, wr, Nat.reduceAdd, Nat.reduceSub, Bool.false_eq_true, if_true, if_false, reduceIte, reduceCtorEq, walkM, Int.reduceBEq, Int.reduceBNe, Int.reduceLT, Int.reduceLE, decide_true, decide_false, eq_self, Bool.not_true, Bool.not_false, ↓ev_fa, ↓ev_field, ↓ev_load, ↓ev_store, stO_cells, List.all_cons, List.all_nil, Bool.and_self, Bool.and_true, ta32, new, hget_hset', hset_length, and_false, false_and, and_true, true_and, and_self, Nat.reduceEqDiff, Nat.reduceLT, Nat.lt_irrefl, Nat.not_lt_zero, splice, zerosN, fillV, walkB, pureL, V.pure, Nat.reduceMul, Nat.reduceLeDiff, Nat.one_ne_zero, List.take_zero, List.drop_succ_cons, List.drop_zero, List.take_succ_cons, List.replicate_one, List.drop_nil, List.take_nil, Nat.le_refl, Nat.zero_add, Nat.zero_mul, Nat.one_mul, Nat.mul_one, F.own, F.lt]
    refine W.call (fin _ (by simp only [hset_length]; exact F.lt) (fun f s h => by simp only [hget_hset', hset_length, F.lt, Nat.ne_of_lt h, false_and, if_false]; exact F.low f s h) (by simp only [hget_hset', hset_length, F.lt, and_self, and_true, and_false, true_and, eq_self, if_true, if_false, Nat.reduceEqDiff, callC]; try rfl) (by simp only [hget_hset', hset_length, F.lt, and_self, and_true, and_false, true_and, eq_self, if_true, if_false, Nat.reduceEqDiff, callC]; try rfl) (by simp only [hget_hset', hset_length, F.lt, and_self, and_true, and_false, true_and, eq_self, if_true, if_false, Nat.reduceEqDiff, callC]; try rfl) _ (by
      simp only [E]
      cases h : numOf L.names c.name with
      | none => rw [h] at h1; simp at h1
      | some x => rfl)) rfl rfl rfl rfl rfl ?_
    rintro _ K3 ⟨rfl, c3, l3, o3⟩
    simp only [walk, walkL, evOp, quietOp, farOp, nov, gd, rho, putT, wr, Nat.reduceAdd, Nat.reduceSub, Bool.false_eq_true, if_true, if_false, reduceIte, reduceCtorEq, walkM, Int.reduceBEq, Int.reduceBNe, Int.reduceLT, Int.reduceLE, decide_true, decide_false, eq_self, Bool.not_true, Bool.not_false, ↓ev_fa, ↓ev_field, ↓ev_load, ↓ev_store, stO_cells, List.all_cons, List.all_nil, Bool.and_self, Bool.and_true, failV, ta32, new, hget_hset', hset_length, and_false, false_and, and_true, true_and, and_self, Nat.reduceEqDiff, Nat.reduceLT, Nat.lt_irrefl, Nat.not_lt_zero, l3, o3, F.lt, splice, zerosN, fillV, walkB, pureL, V.pure, Nat.reduceMul, Nat.reduceLeDiff, Nat.one_ne_zero, List.take_zero, List.drop_succ_cons, List.drop_zero, List.take_succ_cons, List.replicate_one, List.drop_nil, List.take_nil, Nat.le_refl, Nat.zero_add, Nat.zero_mul, Nat.one_mul, Nat.mul_one]
    exact W.done (EndK.ret (res_cell rfl rfl (hget_same (by first | exact F.lt | assumption | (simp only [hset_length]; first | exact F.lt | assumption))) (by rw [rd36]; rfl)) (conc _ (Ch.fin hn (fun f s h => by simp only [hget_hset', hset_length, F.lt, Nat.ne_of_lt h, false_and, if_false]; exact F.low f s h) (by simp only [hset_length]; exact F.lt) c3)))

theorem rename_l : LSpec 33 MLine.rename := by
  rintro H a L c dv ok ⟨l, bs, clk, hL⟩ hc
  refine cr_of Try.func33 rfl ?_
  intro n K hn F
  have A := F.at_ hn hL.cells
  have B := F.at_ hn hL.names
  have sdv := IsSl.scalar hc.data
  have lk := fun g h => lookup_names (g := g) (nf := a.nf) (ns := a.ns) (l := L.names) (bs := bs) (clk := clk) h c.name
  have lk2 := fun g h => lookup_names (g := g) (nf := a.nf) (ns := a.ns) (l := L.names) (bs := bs) (clk := clk) h c.as_
  generalize hm : (numOf L.names c.name).getD 0 = m at *
  obtain ⟨bs', hb, hdel⟩ : ∃ bs', (∀ x, numOf L.names c.name = some x → Born (eraseN L.names c.name).length bs' clk) ∧ ∀ x, numOf L.names c.name = some x → ∀ g : Get, g a.nf a.ns = some (.map (encN L.names) bs clk) → deleteV Try.prog g 62 (.map a.nf a.ns) (.str c.name) = some (.val (.tuple []) (some (a.nf, a.ns, .map (encN (eraseN L.names c.name)) bs' clk))) := by
    cases h : numOf L.names c.name with
    | none => exact ⟨[], (fun x hx => nomatch hx), (fun x hx => nomatch hx)⟩
    | some x => obtain ⟨bs', h1, h2⟩ := del_names (nf := a.nf) (ns := a.ns) hL.born h; exact ⟨bs', fun _ _ => h1, fun _ _ => h2⟩
  have ez : renameE L c = 0 → (∃ x, numOf L.names c.name = some x) ∧ numOf L.names c.as_ = none := by
    intro hz
    unfold renameE at hz
    split at hz
    · rename_i h; exact absurd hz h
    · split at hz
      · rename_i h1
        split at hz
        · cases hz
        · rename_i h2
          refine ⟨Option.isSome_iff_exists.1 h1, ?_⟩
          cases h : numOf L.names c.as_ with
          | none => rfl
          | some x => rw [h] at h2; simp at h2
      · cases hz
  let w : List (Nat × Nat × O) := [(a.nf, a.ns, .map (encN (eraseN L.names c.name ++ [(c.as_, m)])) (bs' ++ [clk]) (clk + 1))]
  have fin : ∀ K2 : Heap, n < K2.length → (∀ f s, f < n → hget K2 f s = hget H f s) → hget K2 n 6 = some (.cells [.int .i64 m]) → hget K2 n 2 = some (.cells [.ptr a.f a.s 0]) → hget K2 n 3 = some (.cells (callC c dv)) → ∀ e, e = renameE L c →
      CR Try.prog pol 48 [.ptr a.f a.s 0, .int .i64 e, .func (.func 51) [] [.ptr n 2 0, .ptr n 3 0, .ptr n 6 0]] K2 fun v K3 => v = failV (turnE (renameE L c) L.snap) ∧ Ch K2 K3 (if turnE (renameE L c) L.snap = 0 then w else []) ∧ n < K3.length ∧ ∀ s, hget K3 n s = hget K2 n s := by
    intro K2 hlt low g6 g2 g3 e he
    subst he
    have hL2 := hL.low (K := K2) (by rw [← hn]; exact low)
    refine turned_n n K2 a L.snap L.owner L.prev l hL2.cells _ _ _ w rfl rfl rfl rfl hlt (low1' B.lt) (fun hz _ J cj => ?_)
    obtain ⟨⟨x, hs⟩, hn2⟩ := ez hz
    exact rename1_cr J n a L l bs clk (hL2.ch cj) c dv m A.lt B.lt ((cj.get _ _ hlt).trans g6) ((cj.get _ _ hlt).trans g2) ((cj.get _ _ hlt).trans g3) bs' (hdel x hs) (numOf_erase hn2)
  have conc : ∀ H', Ch H H' (if turnE (renameE L c) L.snap = 0 then w else []) → RepV (failV (turnE (renameE L c) L.snap)) (L.rename c).2 ∧ LineIn H' a (L.rename c).1 ∧ Rest H H' a := by
    intro H' hch
    refine turn_conc hL hch fun hz _ h => ?_
    obtain ⟨⟨x, hs⟩, hn2⟩ := ez hz
    rw [hm]
    refine line_upd (hget_lt hL.cells) (hget_lt hL.names) h ?_ (l' := l) (bs' := bs' ++ [clk]) (clk' := clk + 1) ?_ ?_ ?_ ?_
    · intro x hx; simp only [w, List.mem_cons, List.not_mem_nil, or_false] at hx; rcases hx with rfl; simp
    · simp only [w, AM.lk, hL.ne1, and_self, if_true, if_false]; exact hL.cells
    · simp only [w, AM.lk, and_self, if_true, if_false]
    · exact hL.obs
    · simp only [List.length_append, List.length_cons, List.length_nil]; exact (hb x hs).add
  simp only [walk, walkL, evOp, quietOp, farOp, nov, gd, rho, putT, wr, Nat.reduceAdd, Nat.reduceSub, Bool.false_eq_true, if_true, if_false, reduceIte, reduceCtorEq, walkM, Int.reduceBEq, Int.reduceBNe, Int.reduceLT, Int.reduceLE, decide_true, decide_false, eq_self, Bool.not_true, Bool.not_false, ↓ev_fa, ↓ev_field, ↓ev_load, ↓ev_store, stO_cells, List.all_cons, List.all_nil, Bool.and_self, Bool.and_true, Try.ntmps33, ta33, new, hget_hset', hset_length, and_false, false_and, and_true, true_and, and_self, Nat.reduceEqDiff, Nat.reduceLT, Nat.lt_irrefl, Nat.not_lt_zero, splice, zerosN, fillV, walkB, pureL, V.pure, Nat.reduceMul, Nat.reduceLeDiff, Nat.one_ne_zero, List.take_zero, List.drop_succ_cons, List.drop_zero, List.take_succ_cons, List.replicate_one, List.drop_nil, List.take_nil, Nat.le_refl, Nat.zero_add, Nat.zero_mul, Nat.one_mul, Nat.mul_one, F.own, F.lt, callC, sdv]
  refine W.pcall (named_fz c.as_ (by have := hc.as_; omega)) rfl rfl rfl ?_
  rintro _ rfl
  simp only [walk, walkL, evOp, quietOp, farOp, nov, gd, rho, putT, wr, Nat.reduceAdd, Nat.reduceSub, Bool.false_eq_true, if_true, if_false, reduceIte, reduceCtorEq, walkM, Int.reduceBEq, Int.reduceBNe, Int.reduceLT, Int.reduceLE, decide_true, decide_false, eq_self, Bool.not_true, Bool.not_false, ↓ev_fa, ↓ev_field, ↓ev_load, ↓ev_store, stO_cells, List.all_cons, List.all_nil, Bool.and_self, Bool.and_true, ta33, new, hget_hset', hset_length, and_false, false_and, and_true, true_and, and_self, Nat.reduceEqDiff, Nat.reduceLT, Nat.lt_irrefl, Nat.not_lt_zero, splice, zerosN, fillV, walkB, pureL, V.pure, Nat.reduceMul, Nat.reduceLeDiff, Nat.one_ne_zero, List.take_zero, List.drop_succ_cons, List.drop_zero, List.take_succ_cons, List.replicate_one, List.drop_nil, List.take_nil, Nat.le_refl, Nat.zero_add, Nat.zero_mul, Nat.one_mul, Nat.mul_one, F.own, F.lt, A.get, A.ltK, B.get, B.ltK, lc_0, lc_1, lc_2, lc_3, lc_4, Nat.add_zero, callC, A.ne, B.ne, ↓lk, hm]
  refine W.opsC [(0, 10), (3, 10), (5, 10), (6, 10)] (by kernel_rfl) (by simp only [pairsOk, List.getD_cons_zero, List.getD_cons_succ, List.reverse_cons, List.reverse_nil, List.nil_append, List.cons_append, and_true]; refine ⟨?_, ?_, ?_, ?_⟩ <;> (refine indep_ids (by simp) (by simp) ?_; simp [idsOf, Op.operands, rho, V.id?, A.ne, B.ne, Ne.symm A.ne, Ne.symm B.ne])) ?_
  simp only [walk, walkL, evOp, quietOp, farOp, nov, gd, rho, putT, wr, Nat.reduceAdd, Nat.reduceSub, Bool.false_eq_true, if_true, if_false, reduceIte, reduceCtorEq, walkM, Int.reduceBEq, Int.reduceBNe, Int.reduceLT, Int.reduceLE, decide_true, decide_false, eq_self, Bool.not_true, Bool.not_false, ↓ev_fa, ↓ev_field, ↓ev_load, ↓ev_store, stO_cells, List.all_cons, List.all_nil, Bool.and_self, Bool.and_true, ta33, new, hget_hset', hset_length, and_false, false_and, and_true, true_and, and_self, Nat.reduceEqDiff, Nat.reduceLT, Nat.lt_irrefl, Nat.not_lt_zero, splice, zerosN, fillV, walkB, pureL, V.pure, Nat.reduceMul, Nat.reduceLeDiff, Nat.one_ne_zero, List.take_zero, List.drop_succ_cons, List.drop_zero, List.take_succ_cons, List.replicate_one, List.drop_nil, List.take_nil, Nat.le_refl, Nat.zero_add, Nat.zero_mul, Nat.one_mul, Nat.mul_one, F.own, F.lt, A.get, A.ltK, B.get, B.ltK, lc_0, lc_1, lc_2, lc_3, lc_4, Nat.add_zero, callC, A.ne, B.ne, ↓lk2, hm]
  refine W.opsK (by kernel_rfl) ?_
  simp only [walk, walkL, evOp, quietOp, farOp, nov, gd, rho, putT, wr, Nat.reduceAdd, Nat.reduceSub, Bool.false_eq_true, if_true, if_false, reduceIte, reduceCtorEq, walkM, Int.reduceBEq, Int.reduceBNe, Int.reduceLT, Int.reduceLE, decide_true, decide_false, eq_self, Bool.not_true, Bool.not_false, ↓ev_fa, ↓ev_field, ↓ev_load, ↓ev_store, stO_cells, List.all_cons, List.all_nil, Bool.and_self, Bool.and_true]
  refine W.ite (fun h1 => ?_) (fun h1 => ?_)
  · have h1' : ¬ nameE c.as_ = 0 := by simpa using h1
    simp only [walk, walkL, evOp, quietOp, farOp, nov, gd, rho, putT, wr, Nat.reduceAdd, Nat.reduceSub, Bool.false_eq_true, if_true, if_false, reduceIte, reduceCtorEq, walkM, Int.reduceBEq, Int.reduceBNe, Int.reduceLT, Int.reduceLE, decide_true, decide_false, eq_self, Bool.not_true, Bool.not_false, ↓ev_fa, ↓ev_field, ↓ev_load, ↓ev_store, stO_cells, List.all_cons, List.all_nil, Bool.and_self, Bool.and_true, ta33, new, hget_hset', hset_length, and_false, false_and, and_true, true_and, and_self, Nat.reduceEqDiff, Nat.reduceLT, Nat.lt_irrefl, Nat.not_lt_zero, splice, zerosN, fillV, walkB, pureL, V.pure, Nat.reduceMul, Nat.reduceLeDiff, Nat.one_ne_zero, List.take_zero, List.drop_succ_cons, List.drop_zero, List.take_succ_cons, List.replicate_one, List.drop_nil, List.take_nil, Nat.le_refl, Nat.zero_add, Nat.zero_mul, Nat.one_mul, Nat.mul_one, F.own, F.lt]
    refine W.call (fin _ (by simp only [hset_length]; exact F.lt) (fun f s h => by simp only [hget_hset', hset_length, F.lt, Nat.ne_of_lt h, false_and, if_false]; exact F.low f s h) (by simp only [hget_hset', hset_length, F.lt, and_self, and_true, and_false, true_and, eq_self, if_true, if_false, Nat.reduceEqDiff, callC]; try rfl) (by simp only [hget_hset', hset_length, F.lt, and_self, and_true, and_false, true_and, eq_self, if_true, if_false, Nat.reduceEqDiff, callC]; try rfl) (by simp only [hget_hset', hset_length, F.lt, and_self, and_true, and_false, true_and, eq_self, if_true, if_false, Nat.reduceEqDiff, callC]; try rfl) _ (by rw [renameE, if_pos h1'])) rfl rfl rfl rfl rfl ?_
    rintro _ K3 ⟨rfl, c3, l3, o3⟩
    simp only [walk, walkL, evOp, quietOp, farOp, nov, gd, rho, putT, wr, Nat.reduceAdd, Nat.reduceSub, Bool.false_eq_true, if_true, if_false, reduceIte, reduceCtorEq, walkM, Int.reduceBEq, Int.reduceBNe, Int.reduceLT, Int.reduceLE, decide_true, decide_false, eq_self, Bool.not_true, Bool.not_false, ↓ev_fa, ↓ev_field, ↓ev_load, ↓ev_store, stO_cells, List.all_cons, List.all_nil, Bool.and_self, Bool.and_true, failV, ta33, new, hget_hset', hset_length, and_false, false_and, and_true, true_and, and_self, Nat.reduceEqDiff, Nat.reduceLT, Nat.lt_irrefl, Nat.not_lt_zero, l3, o3, F.lt, splice, zerosN, fillV, walkB, pureL, V.pure, Nat.reduceMul, Nat.reduceLeDiff, Nat.one_ne_zero, List.take_zero, List.drop_succ_cons, List.drop_zero, List.take_succ_cons, List.replicate_one, List.drop_nil, List.take_nil, Nat.le_refl, Nat.zero_add, Nat.zero_mul, Nat.one_mul, Nat.mul_one]
    exact W.done (EndK.ret (res_cell rfl rfl (hget_same (by first | exact F.lt | assumption | (simp only [hset_length]; first | exact F.lt | assumption))) (by rw [rd36]; rfl)) (conc _ (Ch.fin hn (fun f s h => by simp only [hget_hset', hset_length, F.lt, Nat.ne_of_lt h, false_and, if_false]; exact F.low f s h) (by simp only [hset_length]; exact F.lt) c3)))
  · have h1' : nameE c.as_ = 0 := by simpa using h1
    simp only [walk, walkL, evOp, quietOp, farOp, nov, gd, rho, putT, wr, Nat.reduceAdd, Nat.reduceSub, Bool.false_eq_true, if_true, if_false, reduceIte, reduceCtorEq, walkM, Int.reduceBEq, Int.reduceBNe, Int.reduceLT, Int.reduceLE, decide_true, decide_false, eq_self, Bool.not_true, Bool.not_false, ↓ev_fa, ↓ev_field, ↓ev_load, ↓ev_store, stO_cells, List.all_cons, List.all_nil, Bool.and_self, Bool.and_true]
    refine W.ite (fun h2 => ?_) (fun h2 => ?_)
    · simp only [walk, walkL, evOp, quietOp, farOp, nov, gd, rho, putT, wr, Nat.reduceAdd, Nat.reduceSub, Bool.false_eq_true, if_true, if_false, reduceIte, reduceCtorEq, walkM, Int.reduceBEq, Int.reduceBNe, Int.reduceLT, Int.reduceLE, decide_true, decide_false, eq_self, Bool.not_true, Bool.not_false, ↓ev_fa, ↓ev_field, ↓ev_load, ↓ev_store, stO_cells, List.all_cons, List.all_nil, Bool.and_self, Bool.and_true, ta33, new, hget_hset', hset_length, and_false, false_and, and_true, true_and, and_self, Nat.reduceEqDiff, Nat.reduceLT, Nat.lt_irrefl, Nat.not_lt_zero, splice, zerosN, fillV, walkB, pureL, V.pure, Nat.reduceMul, Nat.reduceLeDiff, Nat.one_ne_zero, List.take_zero, List.drop_succ_cons, List.drop_zero, List.take_succ_cons, List.replicate_one, List.drop_nil, List.take_nil, Nat.le_refl, Nat.zero_add, Nat.zero_mul, Nat.one_mul, Nat.mul_one, F.own, F.lt]
      refine W.call (fin _ (by simp only [hset_length]; exact F.lt) (fun f s h => by simp only [hget_hset', hset_length, F.lt, Nat.ne_of_lt h, false_and, if_false]; exact F.low f s h) (by simp only [hget_hset', hset_length, F.lt, and_self, and_true, and_false, true_and, eq_self, if_true, if_false, Nat.reduceEqDiff, callC]; try rfl) (by simp only [hget_hset', hset_length, F.lt, and_self, and_true, and_false, true_and, eq_self, if_true, if_false, Nat.reduceEqDiff, callC]; try rfl) (by simp only [hget_hset', hset_length, F.lt, and_self, and_true, and_false, true_and, eq_self, if_true, if_false, Nat.reduceEqDiff, callC]; try rfl) _ (by
        rw [renameE, if_neg (by simpa using h1')]
        simp only [Bool.not_eq_true'] at h2
        rw [h2]; rfl)) rfl rfl rfl rfl rfl ?_
      rintro _ K3 ⟨rfl, c3, l3, o3⟩
      simp only [walk, walkL, evOp, quietOp, farOp, nov, gd, rho, putT, wr, Nat.reduceAdd, Nat.reduceSub, Bool.false_eq_true, if_true, if_false, reduceIte, reduceCtorEq, walkM, Int.reduceBEq, Int.reduceBNe, Int.reduceLT, Int.reduceLE, decide_true, decide_false, eq_self, Bool.not_true, Bool.not_false, ↓ev_fa, ↓ev_field, ↓ev_load, ↓ev_store, stO_cells, List.all_cons, List.all_nil, Bool.and_self, Bool.and_true, failV, ta33, new, hget_hset', hset_length, and_false, false_and, and_true, true_and, and_self, Nat.reduceEqDiff, Nat.reduceLT, Nat.lt_irrefl, Nat.not_lt_zero, l3, o3, F.lt, splice, zerosN, fillV, walkB, pureL, V.pure, Nat.reduceMul, Nat.reduceLeDiff, Nat.one_ne_zero, List.take_zero, List.drop_succ_cons, List.drop_zero, List.take_succ_cons, List.replicate_one, List.drop_nil, List.take_nil, Nat.le_refl, Nat.zero_add, Nat.zero_mul, Nat.one_mul, Nat.mul_one]
      exact W.done (EndK.ret (res_cell rfl rfl (hget_same (by first | exact F.lt | assumption | (simp only [hset_length]; first | exact F.lt | assumption))) (by rw [rd36]; rfl)) (conc _ (Ch.fin hn (fun f s h => by simp only [hget_hset', hset_length, F.lt, Nat.ne_of_lt h, false_and, if_false]; exact F.low f s h) (by simp only [hset_length]; exact F.lt) c3)))
    · have h2' : (numOf L.names c.name).isSome = true := by simpa using h2
      simp only [walk, walkL, evOp, quietOp, farOp, nov, gd, rho, putT, wr, Nat.reduceAdd, Nat.reduceSub, Bool.false_eq_true, if_true, if_false, reduceIte, reduceCtorEq, walkM, Int.reduceBEq, Int.reduceBNe, Int.reduceLT, Int.reduceLE, decide_true, decide_false, eq_self, Bool.not_true, Bool.not_false, ↓ev_fa, ↓ev_field, ↓ev_load, ↓ev_store, stO_cells, List.all_cons, List.all_nil, Bool.and_self, Bool.and_true]
      refine W.ite (fun h3 => ?_) (fun h3 => ?_)
      · simp only [walk, walkL, evOp, quietOp, farOp, nov, gd, rho, putT, wr, Nat.reduceAdd, Nat.reduceSub, Bool.false_eq_true, if_true, if_false, reduceIte, reduceCtorEq, walkM, Int.reduceBEq, Int.reduceBNe, Int.reduceLT, Int.reduceLE, decide_true, decide_false, eq_self, Bool.not_true, Bool.not_false, ↓ev_fa, ↓ev_field, ↓ev_load, ↓ev_store, stO_cells, List.all_cons, List.all_nil, Bool.and_self, Bool.and_true, ta33, new, hget_hset', hset_length, and_false, false_and, and_true, true_and, and_self, Nat.reduceEqDiff, Nat.reduceLT, Nat.lt_irrefl, Nat.not_lt_zero, splice, zerosN, fillV, walkB, pureL, V.pure, Nat.reduceMul, Nat.reduceLeDiff, Nat.one_ne_zero, List.take_zero, List.drop_succ_cons, List.drop_zero, List.take_succ_cons, List.replicate_one, List.drop_nil, List.take_nil, Nat.le_refl, Nat.zero_add, Nat.zero_mul, Nat.one_mul, Nat.mul_one, F.own, F.lt]
        refine W.call (fin _ (by simp only [hset_length]; exact F.lt) (fun f s h => by simp only [hget_hset', hset_length, F.lt, Nat.ne_of_lt h, false_and, if_false]; exact F.low f s h) (by simp only [hget_hset', hset_length, F.lt, and_self, and_true, and_false, true_and, eq_self, if_true, if_false, Nat.reduceEqDiff, callC]; try rfl) (by simp only [hget_hset', hset_length, F.lt, and_self, and_true, and_false, true_and, eq_self, if_true, if_false, Nat.reduceEqDiff, callC]; try rfl) (by simp only [hget_hset', hset_length, F.lt, and_self, and_true, and_false, true_and, eq_self, if_true, if_false, Nat.reduceEqDiff, callC]; try rfl) _ (by
          rw [renameE, if_neg (by simpa using h1'), h2', h3]; rfl)) rfl rfl rfl rfl rfl ?_
        rintro _ K3 ⟨rfl, c3, l3, o3⟩
        simp only [walk, walkL, evOp, quietOp, farOp, nov, gd, rho, putT, wr, Nat.reduceAdd, Nat.reduceSub, Bool.false_eq_true, if_true, if_false, reduceIte, reduceCtorEq, walkM, Int.reduceBEq, Int.reduceBNe, Int.reduceLT, Int.reduceLE, decide_true, decide_false, eq_self, Bool.not_true, Bool.not_false, ↓ev_fa, ↓ev_field, ↓ev_load, ↓ev_store, stO_cells, List.all_cons, List.all_nil, Bool.and_self, Bool.and_true, failV, ta33, new, hget_hset', hset_length, and_false, false_and, and_true, true_and, and_self, Nat.reduceEqDiff, Nat.reduceLT, Nat.lt_irrefl, Nat.not_lt_zero, l3, o3, F.lt, splice, zerosN, fillV, walkB, pureL, V.pure, Nat.reduceMul, Nat.reduceLeDiff, Nat.one_ne_zero, List.take_zero, List.drop_succ_cons, List.drop_zero, List.take_succ_cons, List.replicate_one, List.drop_nil, List.take_nil, Nat.le_refl, Nat.zero_add, Nat.zero_mul, Nat.one_mul, Nat.mul_one]
        exact W.done (EndK.ret (res_cell rfl rfl (hget_same (by first | exact F.lt | assumption | (simp only [hset_length]; first | exact F.lt | assumption))) (by rw [rd36]; rfl)) (conc _ (Ch.fin hn (fun f s h => by simp only [hget_hset', hset_length, F.lt, Nat.ne_of_lt h, false_and, if_false]; exact F.low f s h) (by simp only [hset_length]; exact F.lt) c3)))
      · simp only [walk, walkL, evOp, quietOp, farOp, nov, gd, rho, putT, wr, Nat.reduceAdd, Nat.reduceSub, Bool.false_eq_true, if_true, if_false, reduceIte, reduceCtorEq, walkM, Int.reduceBEq, Int.reduceBNe, Int.reduceLT, Int.reduceLE, decide_true, decide_false, eq_self, Bool.not_true, Bool.not_false, ↓ev_fa, ↓ev_field, ↓ev_load, ↓ev_store, stO_cells, List.all_cons, List.all_nil, Bool.and_self, Bool.and_true, ta33, new, hget_hset', hset_length, and_false, false_and, and_true, true_and, and_self, Nat.reduceEqDiff, Nat.reduceLT, Nat.lt_irrefl, Nat.not_lt_zero, splice, zerosN, fillV, walkB, pureL, V.pure, Nat.reduceMul, Nat.reduceLeDiff, Nat.one_ne_zero, List.take_zero, List.drop_succ_cons, List.drop_zero, List.take_succ_cons, List.replicate_one, List.drop_nil, List.take_nil, Nat.le_refl, Nat.zero_add, Nat.zero_mul, Nat.one_mul, Nat.mul_one, F.own, F.lt]
        refine W.call (fin _ (by simp only [hset_length]; exact F.lt) (fun f s h => by simp only [hget_hset', hset_length, F.lt, Nat.ne_of_lt h, false_and, if_false]; exact F.low f s h) (by simp only [hget_hset', hset_length, F.lt, and_self, and_true, and_false, true_and, eq_self, if_true, if_false, Nat.reduceEqDiff, callC]; try rfl) (by simp only [hget_hset', hset_length, F.lt, and_self, and_true, and_false, true_and, eq_self, if_true, if_false, Nat.reduceEqDiff, callC]; try rfl) (by simp only [hget_hset', hset_length, F.lt, and_self, and_true, and_false, true_and, eq_self, if_true, if_false, Nat.reduceEqDiff, callC]; try rfl) _ (by
          rw [renameE, if_neg (by simpa using h1'), h2', h3]; exact h1')) rfl rfl rfl rfl rfl ?_
        rintro _ K3 ⟨rfl, c3, l3, o3⟩
        simp only [walk, walkL, evOp, quietOp, farOp, nov, gd, rho, putT, wr, Nat.reduceAdd, Nat.reduceSub, Bool.false_eq_true, if_true, if_false, reduceIte, reduceCtorEq, walkM, Int.reduceBEq, Int.reduceBNe, Int.reduceLT, Int.reduceLE, decide_true, decide_false, eq_self, Bool.not_true, Bool.not_false, ↓ev_fa, ↓ev_field, ↓ev_load, ↓ev_store, stO_cells, List.all_cons, List.all_nil, Bool.and_self, Bool.and_true, failV, ta33, new, hget_hset', hset_length, and_false, false_and, and_true, true_and, and_self, Nat.reduceEqDiff, Nat.reduceLT, Nat.lt_irrefl, Nat.not_lt_zero, l3, o3, F.lt, splice, zerosN, fillV, walkB, pureL, V.pure, Nat.reduceMul, Nat.reduceLeDiff, Nat.one_ne_zero, List.take_zero, List.drop_succ_cons, List.drop_zero, List.take_succ_cons, List.replicate_one, List.drop_nil, List.take_nil, Nat.le_refl, Nat.zero_add, Nat.zero_mul, Nat.one_mul, Nat.mul_one]
        exact W.done (EndK.ret (res_cell rfl rfl (hget_same (by first | exact F.lt | assumption | (simp only [hset_length]; first | exact F.lt | assumption))) (by rw [rd36]; rfl)) (conc _ (Ch.fin hn (fun f s h => by simp only [hget_hset', hset_length, F.lt, Nat.ne_of_lt h, false_and, if_false]; exact F.low f s h) (by simp only [hset_length]; exact F.lt) c3)))
end Go.Proofs.Ytebbgmeomkjibaa
end
