/- This file holds in one the texts O13, O14; each says at its head what it proves. -/
import Derived.Test.YtebbgmeomkjibaaG37
set_option linter.unusedSimpArgs false
set_option linter.unusedVariables false
section
/- model: add, make, point. -/
set_option maxRecDepth 100000
namespace Go.Proofs.Ytebbgmeomkjibaa
open Go.AM Go.Mod

attribute [local irreducible] U W lineC

theorem me_names {g : Get} {nf ns : Nat} {l : List (Bytes × Int)} {bs : List Nat} {clk : Nat} (h : g nf ns = some (.map (encN l) bs clk)) {s : Bytes} (hs : numOf l s = none) :
    mapEntryV Try.prog g 62 (.map nf ns) (.str s) = some (.val (.tuple [.int .i64 0, .int .i64 clk]) (some (nf, ns, .map (encN (l ++ [(s, 0)])) (bs ++ [clk]) (clk + 1)))) := by
  have z : zer Try.prog 3 = some (.int .i64 0) := by kernel_rfl
  simp only [mapEntryV, Try.underlying62, Try.underlying9, z, plainKey, if_true, h, findKey_new hs]
  simp only [encN, List.map_append, List.map_cons, List.map_nil]
  rfl
theorem putAt_last (x : V) (k y : V) (clk : Nat) : ∀ (es : List (V × V)) (bs : List Nat), es.length = bs.length → (∀ b ∈ bs, b < clk) → putAt (clk : Int) x (es ++ [(k, y)]) (bs ++ [clk]) = some (es ++ [(k, x)])
  | [], [], _, _ => by simp [putAt]
  | [], b :: bs, h, _ => by simp at h
  | e :: es, [], h, _ => by simp at h
  | e :: es, b :: bs, h, hb => by
    have h1 := hb b (by simp)
    have ih := putAt_last x k y clk es bs (by simpa using h) (fun c hc => hb c (List.mem_cons_of_mem _ hc))
    simp only [List.cons_append, putAt]
    rw [if_neg (by omega), ih]; rfl
theorem es_names {g : Get} {nf ns : Nat} {l : List (Bytes × Int)} {bs : List Nat} {clk : Nat} {s : Bytes} (h : g nf ns = some (.map (encN (l ++ [(s, 0)])) (bs ++ [clk]) (clk + 1))) (b : Born l.length bs clk) (n : Int) :
    entryStoreV g (.map nf ns) (.int .i64 clk) (.int .i64 n) = some (.val .bad (some (nf, ns, .map (encN (l ++ [(s, n)])) (bs ++ [clk]) (clk + 1)))) := by
  simp only [entryStoreV, h]
  have := putAt_last (.int .i64 n) (.str s) (.int .i64 0) clk (encN l) bs (by simp only [encN, List.length_map]; exact b.len.symm) b.lt
  simp only [encN, List.map_append, List.map_cons, List.map_nil] at this ⊢
  rw [this]; rfl

theorem add_cr (H : Heap) (a : Loc) (L : MLine) (ok : LineOk L) (l : List Ob) (bs : List Nat) (clk : Nat) (hL : LineAt H a L l bs clk) (name : Bytes) (o : MObj) (v : V) (hv : IsBytes v o.data) :
    CR Try.prog pol 46 [.ptr a.f a.s 0, .str name, .agg [.int .u8 o.kind, .int .i64 o.links, v]] H fun r H' => RepV r (L.add name o).2 ∧ LineIn H' a (L.add name o).1 ∧ Rest H H' a := by
  refine cr_of Try.func46 rfl ?_
  intro n K hn F
  have A := F.at_ hn hL.cells
  have B := F.at_ hn hL.names
  have sv := IsSl.scalar hv
  have cv := IsSl.cells hv
  have bad : ∀ (K2 : Heap) (x : Int), x ≠ 0 → addE L name = x → Ch H K2 [] → RepV (failV x) (L.add name o).2 ∧ LineIn K2 a (L.add name o).1 ∧ Rest H K2 a := by
    intro K2 x hx he hch
    have : L.add name o = (L, fail x) := by rw [MLine.add, he, if_neg hx]
    rw [this]
    exact ⟨rep_fail x, line_same hL hch⟩
  simp only [walk, walkL, evOp, quietOp, farOp, nov, gd, rho, putT, wr, Nat.reduceAdd, Nat.reduceSub, Bool.false_eq_true, if_true, if_false, reduceIte, reduceCtorEq, walkM, Int.reduceBEq, Int.reduceBNe, Int.reduceLT, Int.reduceLE, decide_true, decide_false, eq_self, Bool.not_true, Bool.not_false, ↓ev_fa, ↓ev_field, ↓ev_load, ↓ev_store, stO_cells, List.all_cons, List.all_nil, Bool.and_self, Bool.and_true, Try.ntmps46, ta46, new, hget_hset', hset_length, and_false, false_and, and_true, true_and, and_self, Nat.reduceEqDiff, Nat.reduceLT, Nat.lt_irrefl, Nat.not_lt_zero, splice, zerosN, fillV, walkB, pureL, V.pure, Nat.reduceMul, Nat.reduceLeDiff, Nat.one_ne_zero, List.take_zero, List.drop_succ_cons, List.drop_zero, List.take_succ_cons, List.replicate_one, List.drop_nil, List.take_nil, Nat.le_refl, Nat.zero_add, Nat.zero_mul, Nat.one_mul, Nat.mul_one, F.own, F.lt, sv]
  refine W.call (room_cr _ a L l bs clk (hL.low (by rw [← hn]; exact (fun f s h => by simp only [hget_hset', hset_length, F.lt, Nat.ne_of_lt h, false_and, if_false]; exact F.low f s h))) name) rfl rfl rfl rfl rfl ?_
  rintro _ J ⟨rfl, cj⟩
  have lj : n < J.length := cj.lt (by simp only [hset_length]; exact F.lt)
  have lowj : ∀ f s, f < n → hget J f s = hget H f s := fun f s h => by
    rw [cj.get f s (by simp only [hset_length]; have := F.lt; omega)]
    simp only [hget_hset', hset_length, F.lt, Nat.ne_of_lt h, false_and, if_false, lk]; exact F.low f s h
  have j5 : hget J n 5 = some (.cells [.int .u8 o.kind, .int .i64 o.links, v]) := (cj.own (by simp only [hset_length]; exact F.lt) (by simp)).trans (by simp only [hget_hset', hset_length, F.lt, and_self, and_true, and_false, true_and, eq_self, if_true, if_false, Nat.reduceEqDiff, callC]; try rfl)
  have j6 : hget J n 6 = _ := (cj.own (by simp only [hset_length]; exact F.lt) (by simp)).trans (hget_same (by simp only [hset_length]; exact F.lt))
  have chj : ∀ v x, Ch H (popF n v (hset J n 6 x)) [] := fun v x => Ch.fin hn lowj lj (Ch.refl J)
  have aj : hget J a.f a.s = _ := (lowj _ _ A.lt).trans hL.cells
  have bj : hget J a.nf a.ns = _ := (lowj _ _ B.lt).trans hL.names
  have al : a.f < J.length := by have := A.lt; omega
  have bl : a.nf < J.length := by have := B.lt; omega
  clear cj
  generalize hr : roomE L.names name = r at *
  simp only [walk, walkL, evOp, quietOp, farOp, nov, gd, rho, putT, wr, Nat.reduceAdd, Nat.reduceSub, Bool.false_eq_true, if_true, if_false, reduceIte, reduceCtorEq, walkM, Int.reduceBEq, Int.reduceBNe, Int.reduceLT, Int.reduceLE, decide_true, decide_false, eq_self, Bool.not_true, Bool.not_false, ↓ev_fa, ↓ev_field, ↓ev_load, ↓ev_store, stO_cells, List.all_cons, List.all_nil, Bool.and_self, Bool.and_true, ta46]
  refine W.ul ?_
  refine W.loopS (kt := [0, 1, 5, 6, 7, 8]) rfl (fun i : Nat => st46_3 (.ptr a.f a.s 0) (.str name) (.ptr n 5 0) (.ptr n 6 0) (.int .i64 r) (.int .i64 i)) (fun _ => J) (fun i => 1 ≤ i ∧ i ≤ 16 ∧ freeFrom L.objs (16 - i) i = L.free) (fun i => 16 - i) ?_ 1 ⟨by omega, by omega, rfl⟩ rfl rfl
  rintro i ⟨hi1, hi2, hg⟩
  simp only [st46_3]
  have tail : i = L.free → True := fun _ => trivial
  by_cases h : i < 16
  · have c1 : decide ((i : Int) < 16) = true := decide_eq_true (by omega)
    have w1 : (IntKind.i64).wrap ((i : Int) + 1) = ((i + 1 : Nat) : Int) := by rw [wrap_i64] <;> omega
    obtain ⟨o2, ho2, hk2, _, _⟩ := hL.obs.at_ (ok.at_ (i := (i : Int)) (by omega) (by omega))
    obtain ⟨j, hj⟩ : ∃ j, 16 - i = j + 1 := ⟨15 - i, by omega⟩
    have hob : (L.objs[i]?).getD noObj = L.ob (i : Int) := rfl
    rw [hj, freeFrom, hob] at hg
    simp only [walk, walkL, evOp, quietOp, farOp, nov, gd, rho, putT, wr, Nat.reduceAdd, Nat.reduceSub, Bool.false_eq_true, if_true, if_false, reduceIte, reduceCtorEq, walkM, Int.reduceBEq, Int.reduceBNe, Int.reduceLT, Int.reduceLE, decide_true, decide_false, eq_self, Bool.not_true, Bool.not_false, ↓ev_fa, ↓ev_field, ↓ev_load, ↓ev_store, stO_cells, List.all_cons, List.all_nil, Bool.and_self, Bool.and_true, c1, ta46, A.get, A.ltK, B.get, B.ltK, lc_0, lc_1, lc_2, lc_3, lc_4, Nat.add_zero, Nat.zero_add, callC, aj, ia_ob (show (0 : Int) ≤ (i : Int) by omega) (show (i : Int) < 16 by omega), lc_kind ho2, hk2]
    refine W.ite (fun h2 => ?_) (fun h2 => ?_)
    · have h3 : ¬ (L.ob i).kind = 0 := by simpa using h2
      rw [if_neg h3] at hg
      simp only [walk, walkL, evOp, quietOp, farOp, nov, gd, rho, putT, wr, Nat.reduceAdd, Nat.reduceSub, Bool.false_eq_true, if_true, if_false, reduceIte, reduceCtorEq, walkM, Int.reduceBEq, Int.reduceBNe, Int.reduceLT, Int.reduceLE, decide_true, decide_false, eq_self, Bool.not_true, Bool.not_false, ↓ev_fa, ↓ev_field, ↓ev_load, ↓ev_store, stO_cells, List.all_cons, List.all_nil, Bool.and_self, Bool.and_true, w1]
      exact W.done ⟨i + 1, rfl, rfl, ⟨by omega, by omega, by rw [show 16 - (i + 1) = j by omega]; exact hg⟩, by omega⟩
    · have h3 : (L.ob i).kind = 0 := by simpa using h2
      rw [if_pos h3] at hg
      simp only [walk, walkL, evOp, quietOp, farOp, nov, gd, rho, putT, wr, Nat.reduceAdd, Nat.reduceSub, Bool.false_eq_true, if_true, if_false, reduceIte, reduceCtorEq, walkM, Int.reduceBEq, Int.reduceBNe, Int.reduceLT, Int.reduceLE, decide_true, decide_false, eq_self, Bool.not_true, Bool.not_false, ↓ev_fa, ↓ev_field, ↓ev_load, ↓ev_store, stO_cells, List.all_cons, List.all_nil, Bool.and_self, Bool.and_true]
      refine W.done ?_
      simp only [walk, walkL, evOp, quietOp, farOp, nov, gd, rho, putT, wr, Nat.reduceAdd, Nat.reduceSub, Bool.false_eq_true, if_true, if_false, reduceIte, reduceCtorEq, walkM, Int.reduceBEq, Int.reduceBNe, Int.reduceLT, Int.reduceLE, decide_true, decide_false, eq_self, Bool.not_true, Bool.not_false, ↓ev_fa, ↓ev_field, ↓ev_load, ↓ev_store, stO_cells, List.all_cons, List.all_nil, Bool.and_self, Bool.and_true]
      refine W.ite (fun h4 => ?_) (fun h4 => ?_)
      · have hr0 : r ≠ 0 := by simpa using h4
        simp only [walk, walkL, evOp, quietOp, farOp, nov, gd, rho, putT, wr, Nat.reduceAdd, Nat.reduceSub, Bool.false_eq_true, if_true, if_false, reduceIte, reduceCtorEq, walkM, Int.reduceBEq, Int.reduceBNe, Int.reduceLT, Int.reduceLE, decide_true, decide_false, eq_self, Bool.not_true, Bool.not_false, ↓ev_fa, ↓ev_field, ↓ev_load, ↓ev_store, stO_cells, List.all_cons, List.all_nil, Bool.and_self, Bool.and_true]
        refine W.pcall (fails_fz r) rfl rfl rfl ?_
        rintro _ rfl
        simp only [walk, walkL, evOp, quietOp, farOp, nov, gd, rho, putT, wr, Nat.reduceAdd, Nat.reduceSub, Bool.false_eq_true, if_true, if_false, reduceIte, reduceCtorEq, walkM, Int.reduceBEq, Int.reduceBNe, Int.reduceLT, Int.reduceLE, decide_true, decide_false, eq_self, Bool.not_true, Bool.not_false, ↓ev_fa, ↓ev_field, ↓ev_load, ↓ev_store, stO_cells, List.all_cons, List.all_nil, Bool.and_self, Bool.and_true, failV, ta46, new, hget_hset', hset_length, and_false, false_and, and_true, true_and, and_self, Nat.reduceEqDiff, Nat.reduceLT, Nat.lt_irrefl, Nat.not_lt_zero, lj, j6, splice, zerosN, fillV, walkB, pureL, V.pure, Nat.reduceMul, Nat.reduceLeDiff, Nat.one_ne_zero, List.take_zero, List.drop_succ_cons, List.drop_zero, List.take_succ_cons, List.replicate_one, List.drop_nil, List.take_nil, Nat.le_refl, Nat.zero_add, Nat.zero_mul, Nat.one_mul, Nat.mul_one]
        exact W.done (EndK.ret (res_cell rfl rfl (hget_same (by first | exact F.lt | assumption | (simp only [hset_length]; first | exact F.lt | assumption))) (by rw [rd36]; rfl)) (bad _ r hr0 (by rw [addE, hr, if_pos hr0]) (chj _ _)))
      · have hr0 : ¬ (r ≠ 0) := by simpa using h4
        have f16 : ¬ L.free = 16 := by omega
        have c16 : ((i : Int) == 16) = false := by simp; omega
        simp only [walk, walkL, evOp, quietOp, farOp, nov, gd, rho, putT, wr, Nat.reduceAdd, Nat.reduceSub, Bool.false_eq_true, if_true, if_false, reduceIte, reduceCtorEq, walkM, Int.reduceBEq, Int.reduceBNe, Int.reduceLT, Int.reduceLE, decide_true, decide_false, eq_self, Bool.not_true, Bool.not_false, ↓ev_fa, ↓ev_field, ↓ev_load, ↓ev_store, stO_cells, List.all_cons, List.all_nil, Bool.and_self, Bool.and_true, c16, ta46, A.get, A.ltK, B.get, B.ltK, lc_0, lc_1, lc_2, lc_3, lc_4, Nat.add_zero, Nat.zero_add, callC, aj]
        refine W.ite (fun h5 => ?_) (fun h5 => ?_)
        · simp only [walk, walkL, evOp, quietOp, farOp, nov, gd, rho, putT, wr, Nat.reduceAdd, Nat.reduceSub, Bool.false_eq_true, if_true, if_false, reduceIte, reduceCtorEq, walkM, Int.reduceBEq, Int.reduceBNe, Int.reduceLT, Int.reduceLE, decide_true, decide_false, eq_self, Bool.not_true, Bool.not_false, ↓ev_fa, ↓ev_field, ↓ev_load, ↓ev_store, stO_cells, List.all_cons, List.all_nil, Bool.and_self, Bool.and_true]
          refine W.pcall (fails_fz 202) rfl rfl rfl ?_
          rintro _ rfl
          simp only [walk, walkL, evOp, quietOp, farOp, nov, gd, rho, putT, wr, Nat.reduceAdd, Nat.reduceSub, Bool.false_eq_true, if_true, if_false, reduceIte, reduceCtorEq, walkM, Int.reduceBEq, Int.reduceBNe, Int.reduceLT, Int.reduceLE, decide_true, decide_false, eq_self, Bool.not_true, Bool.not_false, ↓ev_fa, ↓ev_field, ↓ev_load, ↓ev_store, stO_cells, List.all_cons, List.all_nil, Bool.and_self, Bool.and_true, failV, ta46, new, hget_hset', hset_length, and_false, false_and, and_true, true_and, and_self, Nat.reduceEqDiff, Nat.reduceLT, Nat.lt_irrefl, Nat.not_lt_zero, lj, j6, splice, zerosN, fillV, walkB, pureL, V.pure, Nat.reduceMul, Nat.reduceLeDiff, Nat.one_ne_zero, List.take_zero, List.drop_succ_cons, List.drop_zero, List.take_succ_cons, List.replicate_one, List.drop_nil, List.take_nil, Nat.le_refl, Nat.zero_add, Nat.zero_mul, Nat.one_mul, Nat.mul_one]
          exact W.done (EndK.ret (res_cell rfl rfl (hget_same (by first | exact F.lt | assumption | (simp only [hset_length]; first | exact F.lt | assumption))) (by rw [rd36]; rfl)) (bad _ 202 (by decide) (by rw [addE, hr, if_neg hr0, if_neg f16, h5]; rfl) (chj _ _)))
        · have hn0 : numOf L.names name = none := by
            simp only [ne_eq, Decidable.not_not] at hr0
            rw [hr0, roomE] at hr
            cases hq : numOf L.names name with
            | none => rfl
            | some x => rw [hq] at hr; simp at hr
          have hE : addE L name = 0 := by
            rw [addE, hr, if_neg hr0, if_neg f16, h5]; rfl
          have ne1 := hL.ne1
          have ne2 := hL.ne2
          have an : ¬ n = a.f := fun e => A.ne e.symm
          have bn : ¬ n = a.nf := fun e => B.ne e.symm
          have me1 := me_names (g := hget (hset J a.f a.s (.cells (lineC a L.snap L.owner L.prev (l.set (i : Int).toNat ⟨o.kind, o.links, v⟩))))) (by rw [hget_ne al ne2]; exact bj) hn0
          have es1 := es_names (g := hget (hset (hset J a.f a.s (.cells (lineC a L.snap L.owner L.prev (l.set (i : Int).toNat ⟨o.kind, o.links, v⟩)))) a.nf a.ns (.map (encN (L.names ++ [(name, 0)])) (bs ++ [clk]) (clk + 1)))) (hget_same (by simp only [hset_length]; exact bl)) hL.born (i : Int)
          simp only [walk, walkL, evOp, quietOp, farOp, nov, gd, rho, putT, wr, Nat.reduceAdd, Nat.reduceSub, Bool.false_eq_true, if_true, if_false, reduceIte, reduceCtorEq, walkM, Int.reduceBEq, Int.reduceBNe, Int.reduceLT, Int.reduceLE, decide_true, decide_false, eq_self, Bool.not_true, Bool.not_false, ↓ev_fa, ↓ev_field, ↓ev_load, ↓ev_store, stO_cells, List.all_cons, List.all_nil, Bool.and_self, Bool.and_true, ta46, new, hget_hset', hset_length, and_false, false_and, and_true, true_and, and_self, Nat.reduceEqDiff, Nat.reduceLT, Nat.lt_irrefl, Nat.not_lt_zero, zerosN, fillV, walkB, pureL, V.pure, Nat.reduceMul, Nat.reduceLeDiff, Nat.one_ne_zero, List.take_zero, List.drop_succ_cons, List.drop_zero, List.take_succ_cons, List.replicate_one, List.drop_nil, List.take_nil, Nat.le_refl, Nat.zero_add, Nat.zero_mul, Nat.one_mul, Nat.mul_one, A.get, A.ltK, B.get, B.ltK, lc_0, lc_1, lc_2, lc_3, lc_4, Nat.add_zero, callC, aj, bj, j5, sv, al, bl, an, bn, ne1, ne2, ia_ob (show (0 : Int) ≤ (i : Int) by omega) (show (i : Int) < 16 by omega), st_ob ho2, ↓me1, ↓es1]
          refine W.opsK (by kernel_rfl) ?_
          simp only [walk, walkL, evOp, quietOp, farOp, nov, gd, rho, putT, wr, Nat.reduceAdd, Nat.reduceSub, Bool.false_eq_true, if_true, if_false, reduceIte, reduceCtorEq, walkM, Int.reduceBEq, Int.reduceBNe, Int.reduceLT, Int.reduceLE, decide_true, decide_false, eq_self, Bool.not_true, Bool.not_false, ↓ev_fa, ↓ev_field, ↓ev_load, ↓ev_store, stO_cells, List.all_cons, List.all_nil, Bool.and_self, Bool.and_true, ta46, new, hget_hset', hset_length, and_false, false_and, and_true, true_and, and_self, Nat.reduceEqDiff, Nat.reduceLT, Nat.lt_irrefl, Nat.not_lt_zero, splice, zerosN, fillV, walkB, pureL, V.pure, Nat.reduceMul, Nat.reduceLeDiff, Nat.one_ne_zero, List.take_zero, List.drop_succ_cons, List.drop_zero, List.take_succ_cons, List.replicate_one, List.drop_nil, List.take_nil, Nat.le_refl, Nat.zero_add, Nat.zero_mul, Nat.one_mul, Nat.mul_one, lj, j6, al, bl, an, bn]
          refine W.done (EndK.ret (res_cell rfl rfl (hget_same (by first | exact F.lt | assumption | (simp only [hset_length]; first | exact F.lt | assumption))) (by rw [rd36]; rfl)) ?_)
          have hadd : L.add name o = ({ L with objs := L.objs.set i o, names := L.names ++ [(name, (i : Int))] }, fail 0) := by rw [MLine.add, hE, if_pos rfl, ← hg]
          rw [hadd]
          refine ⟨rep_fail 0, line_upd (w := [(a.nf, a.ns, .map (encN (L.names ++ [(name, (i : Int))])) (bs ++ [clk]) (clk + 1)), (a.f, a.s, .cells (lineC a L.snap L.owner L.prev (l.set (i : Int).toNat ⟨o.kind, o.links, v⟩)))]) (hget_lt hL.cells) (hget_lt hL.names) ?_ ?_ (l' := l.set i ⟨o.kind, o.links, v⟩) (bs' := bs ++ [clk]) (clk' := clk + 1) ?_ ?_ ?_ ?_⟩
          · subst hn
            refine ⟨popF_len (by simp only [hset_length]; omega), fun f' s' h => ?_⟩
            rw [popF_get h]
            simp only [hget_hset', hset_length, lj, al, bl, Nat.ne_of_lt h, false_and, if_false, AM.lk, lowj f' s' h]
            split <;> rfl
          · intro x hx; simp only [List.mem_cons, List.not_mem_nil, or_false] at hx; rcases hx with rfl | rfl <;> simp
          · simp only [AM.lk, ne1, and_self, if_true, if_false]; rfl
          · simp only [AM.lk, and_self, if_true]
          · exact hL.obs.set _ ⟨rfl, rfl, hv⟩
          · simp only [List.length_append, List.length_cons, List.length_nil]; exact hL.born.add
  · have e : i = 16 := by omega
    subst e
    have c1 : decide (((16 : Nat) : Int) < 16) = false := rfl
    have f16 : L.free = 16 := by rw [← hg]; rfl
    simp only [walk, walkL, evOp, quietOp, farOp, nov, gd, rho, putT, wr, Nat.reduceAdd, Nat.reduceSub, Bool.false_eq_true, if_true, if_false, reduceIte, reduceCtorEq, walkM, Int.reduceBEq, Int.reduceBNe, Int.reduceLT, Int.reduceLE, decide_true, decide_false, eq_self, Bool.not_true, Bool.not_false, ↓ev_fa, ↓ev_field, ↓ev_load, ↓ev_store, stO_cells, List.all_cons, List.all_nil, Bool.and_self, Bool.and_true, c1]
    refine W.done ?_
    simp only [walk, walkL, evOp, quietOp, farOp, nov, gd, rho, putT, wr, Nat.reduceAdd, Nat.reduceSub, Bool.false_eq_true, if_true, if_false, reduceIte, reduceCtorEq, walkM, Int.reduceBEq, Int.reduceBNe, Int.reduceLT, Int.reduceLE, decide_true, decide_false, eq_self, Bool.not_true, Bool.not_false, ↓ev_fa, ↓ev_field, ↓ev_load, ↓ev_store, stO_cells, List.all_cons, List.all_nil, Bool.and_self, Bool.and_true]
    refine W.ite (fun h4 => ?_) (fun h4 => ?_)
    · have hr0 : r ≠ 0 := by simpa using h4
      simp only [walk, walkL, evOp, quietOp, farOp, nov, gd, rho, putT, wr, Nat.reduceAdd, Nat.reduceSub, Bool.false_eq_true, if_true, if_false, reduceIte, reduceCtorEq, walkM, Int.reduceBEq, Int.reduceBNe, Int.reduceLT, Int.reduceLE, decide_true, decide_false, eq_self, Bool.not_true, Bool.not_false, ↓ev_fa, ↓ev_field, ↓ev_load, ↓ev_store, stO_cells, List.all_cons, List.all_nil, Bool.and_self, Bool.and_true]
      refine W.pcall (fails_fz r) rfl rfl rfl ?_
      rintro _ rfl
      simp only [walk, walkL, evOp, quietOp, farOp, nov, gd, rho, putT, wr, Nat.reduceAdd, Nat.reduceSub, Bool.false_eq_true, if_true, if_false, reduceIte, reduceCtorEq, walkM, Int.reduceBEq, Int.reduceBNe, Int.reduceLT, Int.reduceLE, decide_true, decide_false, eq_self, Bool.not_true, Bool.not_false, ↓ev_fa, ↓ev_field, ↓ev_load, ↓ev_store, stO_cells, List.all_cons, List.all_nil, Bool.and_self, Bool.and_true, failV, ta46, new, hget_hset', hset_length, and_false, false_and, and_true, true_and, and_self, Nat.reduceEqDiff, Nat.reduceLT, Nat.lt_irrefl, Nat.not_lt_zero, lj, j6, splice, zerosN, fillV, walkB, pureL, V.pure, Nat.reduceMul, Nat.reduceLeDiff, Nat.one_ne_zero, List.take_zero, List.drop_succ_cons, List.drop_zero, List.take_succ_cons, List.replicate_one, List.drop_nil, List.take_nil, Nat.le_refl, Nat.zero_add, Nat.zero_mul, Nat.one_mul, Nat.mul_one]
      exact W.done (EndK.ret (res_cell rfl rfl (hget_same (by first | exact F.lt | assumption | (simp only [hset_length]; first | exact F.lt | assumption))) (by rw [rd36]; rfl)) (bad _ r hr0 (by rw [addE, hr, if_pos hr0]) (chj _ _)))
    · have hr0 : ¬ (r ≠ 0) := by simpa using h4
      have c16 : (((16 : Nat) : Int) == 16) = true := rfl
      simp only [walk, walkL, evOp, quietOp, farOp, nov, gd, rho, putT, wr, Nat.reduceAdd, Nat.reduceSub, Bool.false_eq_true, if_true, if_false, reduceIte, reduceCtorEq, walkM, Int.reduceBEq, Int.reduceBNe, Int.reduceLT, Int.reduceLE, decide_true, decide_false, eq_self, Bool.not_true, Bool.not_false, ↓ev_fa, ↓ev_field, ↓ev_load, ↓ev_store, stO_cells, List.all_cons, List.all_nil, Bool.and_self, Bool.and_true, c16]
      refine W.pcall (fails_fz 9) rfl rfl rfl ?_
      rintro _ rfl
      simp only [walk, walkL, evOp, quietOp, farOp, nov, gd, rho, putT, wr, Nat.reduceAdd, Nat.reduceSub, Bool.false_eq_true, if_true, if_false, reduceIte, reduceCtorEq, walkM, Int.reduceBEq, Int.reduceBNe, Int.reduceLT, Int.reduceLE, decide_true, decide_false, eq_self, Bool.not_true, Bool.not_false, ↓ev_fa, ↓ev_field, ↓ev_load, ↓ev_store, stO_cells, List.all_cons, List.all_nil, Bool.and_self, Bool.and_true, failV, ta46, new, hget_hset', hset_length, and_false, false_and, and_true, true_and, and_self, Nat.reduceEqDiff, Nat.reduceLT, Nat.lt_irrefl, Nat.not_lt_zero, lj, j6, splice, zerosN, fillV, walkB, pureL, V.pure, Nat.reduceMul, Nat.reduceLeDiff, Nat.one_ne_zero, List.take_zero, List.drop_succ_cons, List.drop_zero, List.take_succ_cons, List.replicate_one, List.drop_nil, List.take_nil, Nat.le_refl, Nat.zero_add, Nat.zero_mul, Nat.one_mul, Nat.mul_one]
      exact W.done (EndK.ret (res_cell rfl rfl (hget_same (by first | exact F.lt | assumption | (simp only [hset_length]; first | exact F.lt | assumption))) (by rw [rd36]; rfl)) (bad _ 9 (by decide) (by rw [addE, hr, if_neg hr0, if_pos f16]) (chj _ _)))
end Go.Proofs.Ytebbgmeomkjibaa
end
section
/- model: make, point. -/
set_option maxRecDepth 100000
namespace Go.Proofs.Ytebbgmeomkjibaa
open Go.AM Go.Mod

attribute [local irreducible] U W lineC

theorem RepV.cells {v : V} {r : MReply} (h : RepV v r) : ∃ x3 x4 x10 e1 e2 e5 e6 e7 e8 e9, v = .agg [.int .i64 e1, .int .i64 e2, x3, x4, .int .i64 e5, .int .u8 e6, .int .i64 e7, .int .i64 e8, .str e9, x10] ∧ x3.scalar = true ∧ x4.scalar = true ∧ x10.scalar = true := by
  obtain ⟨a, b, c, h1, h2, h3, h4⟩ := h
  exact ⟨a, b, c, _, _, _, _, _, _, _, h1, IsSl.scalar h2, IsSl.scalar h3, IsSl.scalar h4⟩
theorem Rest.trans0 {H K K2 : Heap} {a : Loc} {n s : Nat} {v : V} {o : O} (hn : n = H.length) (low : ∀ f s, f < n → hget K f s = hget H f s) (hl : n < K.length) (r : Rest K K2 a) : Rest H (popF n v (hset K2 n s o)) a := by
  have h2 : n < K2.length := Nat.lt_of_lt_of_le hl r.len
  subst hn
  refine ⟨popF_len (by simp only [hset_length]; omega), fun f s h n1 n2 => ?_⟩
  rw [popF_get h, hget_frame h2 (by omega), r.get f s (by omega) n1 n2, low f s h]
theorem LineIn.fin {K2 : Heap} {a : Loc} {L : MLine} {n s : Nat} {v : V} {o : O} (h2 : n < K2.length) (hf : a.f < n) (hnf : a.nf < n) (h : LineIn K2 a L) : LineIn (popF n v (hset K2 n s o)) a L := by
  obtain ⟨l, bs, clk, hL⟩ := h
  refine ⟨l, bs, clk, hL.obs, ?_, ?_, hL.born⟩
  · rw [popF_get hf, hget_frame h2 (by omega)]; exact hL.cells
  · rw [popF_get hnf, hget_frame h2 (by omega)]; exact hL.names

theorem make_l : LSpec 29 MLine.make := by
  rintro H a L c dv ok ⟨l, bs, clk, hL⟩ hc
  refine cr_of Try.func29 rfl ?_
  intro n K hn F
  have A := F.at_ hn hL.cells
  have B := F.at_ hn hL.names
  have sdv := IsSl.scalar hc.data
  simp only [walk, walkL, evOp, quietOp, farOp, nov, gd, rho, putT, wr, Nat.reduceAdd, Nat.reduceSub, Bool.false_eq_true, if_true, if_false, reduceIte, reduceCtorEq, walkM, Int.reduceBEq, Int.reduceBNe, Int.reduceLT, Int.reduceLE, decide_true, decide_false, eq_self, Bool.not_true, Bool.not_false, ↓ev_fa, ↓ev_field, ↓ev_load, ↓ev_store, stO_cells, List.all_cons, List.all_nil, Bool.and_self, Bool.and_true, Try.ntmps29, ta29, new, hget_hset', hset_length, and_false, false_and, and_true, true_and, and_self, Nat.reduceEqDiff, Nat.reduceLT, Nat.lt_irrefl, Nat.not_lt_zero, splice, zerosN, fillV, walkB, pureL, V.pure, Nat.reduceMul, Nat.reduceLeDiff, Nat.one_ne_zero, List.take_zero, List.drop_succ_cons, List.drop_zero, List.take_succ_cons, List.replicate_one, List.drop_nil, List.take_nil, Nat.le_refl, Nat.zero_add, Nat.zero_mul, Nat.one_mul, Nat.mul_one, A.get, A.ltK, B.get, B.ltK, lc_0, lc_1, lc_2, lc_3, lc_4, Nat.add_zero, callC, F.own, F.lt, sdv]
  refine W.call (add_cr _ a L ok l bs clk (hL.low (by rw [← hn]; exact (fun f s h => by simp only [hget_hset', hset_length, F.lt, Nat.ne_of_lt h, false_and, if_false]; exact F.low f s h))) c.name ⟨1, 1, []⟩ .nilslice IsBytes.nil) rfl rfl rfl rfl rfl ?_
  rintro r J ⟨hr, hl, hrest⟩
  have lj : n < J.length := Nat.lt_of_lt_of_le (by simp only [hset_length]; exact F.lt) hrest.len
  have j4 : hget J n 4 = _ := (hrest.get n 4 (by simp only [hset_length]; exact F.lt) (fun e => A.ne e.1.symm) (fun e => B.ne e.1.symm)).trans (by simp only [hget_hset', hset_length, F.lt, and_self, and_true, and_false, true_and, eq_self, if_true, if_false, Nat.reduceEqDiff, callC]; try rfl)
  obtain ⟨x3, x4, x10, e1, e2, e5, e6, e7, e8, e9, rfl, s3, s4, s10⟩ := hr.cells
  simp only [walk, walkL, evOp, quietOp, farOp, nov, gd, rho, putT, wr, Nat.reduceAdd, Nat.reduceSub, Bool.false_eq_true, if_true, if_false, reduceIte, reduceCtorEq, walkM, Int.reduceBEq, Int.reduceBNe, Int.reduceLT, Int.reduceLE, decide_true, decide_false, eq_self, Bool.not_true, Bool.not_false, ↓ev_fa, ↓ev_field, ↓ev_load, ↓ev_store, stO_cells, List.all_cons, List.all_nil, Bool.and_self, Bool.and_true, ta29, new, hget_hset', hset_length, and_false, false_and, and_true, true_and, and_self, Nat.reduceEqDiff, Nat.reduceLT, Nat.lt_irrefl, Nat.not_lt_zero, splice, zerosN, fillV, walkB, pureL, V.pure, Nat.reduceMul, Nat.reduceLeDiff, Nat.one_ne_zero, List.take_zero, List.drop_succ_cons, List.drop_zero, List.take_succ_cons, List.replicate_one, List.drop_nil, List.take_nil, Nat.le_refl, Nat.zero_add, Nat.zero_mul, Nat.one_mul, Nat.mul_one, lj, j4, s3, s4, s10]
  exact W.done (EndK.ret (res_cell rfl rfl (hget_same (by first | exact F.lt | assumption | (simp only [hset_length]; first | exact F.lt | assumption))) (by rw [rd36]; rfl)) ⟨hr, hl.fin lj A.lt B.lt, hrest.trans0 hn (fun f s h => by simp only [hget_hset', hset_length, F.lt, Nat.ne_of_lt h, false_and, if_false]; exact F.low f s h) (by simp only [hset_length]; exact F.lt)⟩)

theorem point_l : LSpec 30 MLine.point := by
  rintro H a L c dv ok ⟨l, bs, clk, hL⟩ hc
  refine cr_of Try.func30 rfl ?_
  intro n K hn F
  have A := F.at_ hn hL.cells
  have B := F.at_ hn hL.names
  have sdv := IsSl.scalar hc.data
  have hw : L.point c = if nameE c.as_ ≠ 0 then (L, fail (nameE c.as_)) else L.add c.name ⟨3, 1, c.as_⟩ := rfl
  simp only [walk, walkL, evOp, quietOp, farOp, nov, gd, rho, putT, wr, Nat.reduceAdd, Nat.reduceSub, Bool.false_eq_true, if_true, if_false, reduceIte, reduceCtorEq, walkM, Int.reduceBEq, Int.reduceBNe, Int.reduceLT, Int.reduceLE, decide_true, decide_false, eq_self, Bool.not_true, Bool.not_false, ↓ev_fa, ↓ev_field, ↓ev_load, ↓ev_store, stO_cells, List.all_cons, List.all_nil, Bool.and_self, Bool.and_true, Try.ntmps30, ta30, new, hget_hset', hset_length, and_false, false_and, and_true, true_and, and_self, Nat.reduceEqDiff, Nat.reduceLT, Nat.lt_irrefl, Nat.not_lt_zero, splice, zerosN, fillV, walkB, pureL, V.pure, Nat.reduceMul, Nat.reduceLeDiff, Nat.one_ne_zero, List.take_zero, List.drop_succ_cons, List.drop_zero, List.take_succ_cons, List.replicate_one, List.drop_nil, List.take_nil, Nat.le_refl, Nat.zero_add, Nat.zero_mul, Nat.one_mul, Nat.mul_one, A.get, A.ltK, B.get, B.ltK, lc_0, lc_1, lc_2, lc_3, lc_4, Nat.add_zero, callC, F.own, F.lt, sdv]
  refine W.pcall (named_fz c.as_ (by have := hc.as_; omega)) rfl rfl rfl ?_
  rintro _ rfl
  simp only [walk, walkL, evOp, quietOp, farOp, nov, gd, rho, putT, wr, Nat.reduceAdd, Nat.reduceSub, Bool.false_eq_true, if_true, if_false, reduceIte, reduceCtorEq, walkM, Int.reduceBEq, Int.reduceBNe, Int.reduceLT, Int.reduceLE, decide_true, decide_false, eq_self, Bool.not_true, Bool.not_false, ↓ev_fa, ↓ev_field, ↓ev_load, ↓ev_store, stO_cells, List.all_cons, List.all_nil, Bool.and_self, Bool.and_true]
  refine W.ite (fun h1 => ?_) (fun h1 => ?_)
  · have h1' : nameE c.as_ ≠ 0 := by simpa using h1
    rw [if_pos h1'] at hw
    simp only [walk, walkL, evOp, quietOp, farOp, nov, gd, rho, putT, wr, Nat.reduceAdd, Nat.reduceSub, Bool.false_eq_true, if_true, if_false, reduceIte, reduceCtorEq, walkM, Int.reduceBEq, Int.reduceBNe, Int.reduceLT, Int.reduceLE, decide_true, decide_false, eq_self, Bool.not_true, Bool.not_false, ↓ev_fa, ↓ev_field, ↓ev_load, ↓ev_store, stO_cells, List.all_cons, List.all_nil, Bool.and_self, Bool.and_true]
    refine W.pcall (fails_fz (nameE c.as_)) rfl rfl rfl ?_
    rintro _ rfl
    simp only [walk, walkL, evOp, quietOp, farOp, nov, gd, rho, putT, wr, Nat.reduceAdd, Nat.reduceSub, Bool.false_eq_true, if_true, if_false, reduceIte, reduceCtorEq, walkM, Int.reduceBEq, Int.reduceBNe, Int.reduceLT, Int.reduceLE, decide_true, decide_false, eq_self, Bool.not_true, Bool.not_false, ↓ev_fa, ↓ev_field, ↓ev_load, ↓ev_store, stO_cells, List.all_cons, List.all_nil, Bool.and_self, Bool.and_true, failV, ta30, new, hget_hset', hset_length, and_false, false_and, and_true, true_and, and_self, Nat.reduceEqDiff, Nat.reduceLT, Nat.lt_irrefl, Nat.not_lt_zero, F.lt, splice, zerosN, fillV, walkB, pureL, V.pure, Nat.reduceMul, Nat.reduceLeDiff, Nat.one_ne_zero, List.take_zero, List.drop_succ_cons, List.drop_zero, List.take_succ_cons, List.replicate_one, List.drop_nil, List.take_nil, Nat.le_refl, Nat.zero_add, Nat.zero_mul, Nat.one_mul, Nat.mul_one]
    refine W.done (EndK.ret (res_cell rfl rfl (hget_same (by first | exact F.lt | assumption | (simp only [hset_length]; first | exact F.lt | assumption))) (by rw [rd36]; rfl)) ?_)
    rw [hw]
    exact ⟨rep_fail _, line_same hL (F.ch hn (by first | rfl | simp only [hset_length]) (fun f' s' h => by first | rfl | simp only [hget_hset', hset_length, F.lt, Nat.ne_of_lt h, false_and, if_false, AM.lk, *, -hn]))⟩
  · have h1' : ¬ (nameE c.as_ ≠ 0) := by simpa using h1
    rw [if_neg h1'] at hw
    have cv : ∀ g, convertV Try.prog g 9 26 (.str c.as_) = some (.val (.islice (ofBytes c.as_) c.as_.length false) none) := fun g => by
      simp only [convertV, Try.underlying9, Try.underlying26, Try.underlying5]
    simp only [walk, walkL, evOp, quietOp, farOp, nov, gd, rho, putT, wr, Nat.reduceAdd, Nat.reduceSub, Bool.false_eq_true, if_true, if_false, reduceIte, reduceCtorEq, walkM, Int.reduceBEq, Int.reduceBNe, Int.reduceLT, Int.reduceLE, decide_true, decide_false, eq_self, Bool.not_true, Bool.not_false, ↓ev_fa, ↓ev_field, ↓ev_load, ↓ev_store, stO_cells, List.all_cons, List.all_nil, Bool.and_self, Bool.and_true, ta30, new, hget_hset', hset_length, and_false, false_and, and_true, true_and, and_self, Nat.reduceEqDiff, Nat.reduceLT, Nat.lt_irrefl, Nat.not_lt_zero, splice, zerosN, fillV, walkB, pureL, V.pure, Nat.reduceMul, Nat.reduceLeDiff, Nat.one_ne_zero, List.take_zero, List.drop_succ_cons, List.drop_zero, List.take_succ_cons, List.replicate_one, List.drop_nil, List.take_nil, Nat.le_refl, Nat.zero_add, Nat.zero_mul, Nat.one_mul, Nat.mul_one, A.get, A.ltK, B.get, B.ltK, lc_0, lc_1, lc_2, lc_3, lc_4, Nat.add_zero, callC, F.own, F.lt, sdv, ↓cv]
    refine W.call (add_cr _ a L ok l bs clk (hL.low (by rw [← hn]; exact (fun f s h => by simp only [hget_hset', hset_length, F.lt, Nat.ne_of_lt h, false_and, if_false]; exact F.low f s h))) c.name ⟨3, 1, c.as_⟩ _ (IsBytes.mk c.as_ false)) rfl rfl rfl rfl rfl ?_
    rintro r J ⟨hr, hl, hrest⟩
    have lj : n < J.length := Nat.lt_of_lt_of_le (by simp only [hset_length]; exact F.lt) hrest.len
    have j4 : hget J n 4 = _ := (hrest.get n 4 (by simp only [hset_length]; exact F.lt) (fun e => A.ne e.1.symm) (fun e => B.ne e.1.symm)).trans (by simp only [hget_hset', hset_length, F.lt, and_self, and_true, and_false, true_and, eq_self, if_true, if_false, Nat.reduceEqDiff, callC]; try rfl)
    obtain ⟨x3, x4, x10, e1, e2, e5, e6, e7, e8, e9, rfl, s3, s4, s10⟩ := hr.cells
    simp only [walk, walkL, evOp, quietOp, farOp, nov, gd, rho, putT, wr, Nat.reduceAdd, Nat.reduceSub, Bool.false_eq_true, if_true, if_false, reduceIte, reduceCtorEq, walkM, Int.reduceBEq, Int.reduceBNe, Int.reduceLT, Int.reduceLE, decide_true, decide_false, eq_self, Bool.not_true, Bool.not_false, ↓ev_fa, ↓ev_field, ↓ev_load, ↓ev_store, stO_cells, List.all_cons, List.all_nil, Bool.and_self, Bool.and_true, ta30, new, hget_hset', hset_length, and_false, false_and, and_true, true_and, and_self, Nat.reduceEqDiff, Nat.reduceLT, Nat.lt_irrefl, Nat.not_lt_zero, splice, zerosN, fillV, walkB, pureL, V.pure, Nat.reduceMul, Nat.reduceLeDiff, Nat.one_ne_zero, List.take_zero, List.drop_succ_cons, List.drop_zero, List.take_succ_cons, List.replicate_one, List.drop_nil, List.take_nil, Nat.le_refl, Nat.zero_add, Nat.zero_mul, Nat.one_mul, Nat.mul_one, lj, j4, s3, s4, s10]
    rw [hw]
    exact W.done (EndK.ret (res_cell rfl rfl (hget_same (by first | exact F.lt | assumption | (simp only [hset_length]; first | exact F.lt | assumption))) (by rw [rd36]; rfl)) ⟨hr, hl.fin lj A.lt B.lt, hrest.trans0 hn (fun f s h => by simp only [hget_hset', hset_length, F.lt, Nat.ne_of_lt h, false_and, if_false]; exact F.low f s h) (by simp only [hset_length]; exact F.lt)⟩)
end Go.Proofs.Ytebbgmeomkjibaa
end
