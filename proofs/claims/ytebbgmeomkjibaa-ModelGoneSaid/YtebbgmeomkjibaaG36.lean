/- This file holds in one the texts O9, O10; each says at its head what it proves. -/
import Derived.Test.YtebbgmeomkjibaaG35
set_option linter.unusedSimpArgs false
set_option linter.unusedVariables false
section
/- model: write, cut, read. -/
set_option maxRecDepth 100000
namespace Go.Proofs.Ytebbgmeomkjibaa
open Go.AM Go.Mod

attribute [local irreducible] U W lineC

theorem follow_range {L : MLine} (ok : LineOk L) : ∀ (k : Nat) (s : Bytes), 0 ≤ (L.follow k s).1 ∧ (L.follow k s).1 < 16
  | 0, s => by simp [MLine.follow]
  | k + 1, s => by
    unfold MLine.follow
    cases h : numOf L.names s with
    | none => simp
    | some x =>
      have := ok.num h
      simp only
      split
      · exact follow_range ok k _
      · simp only; omega

theorem cut_l : LSpec 36 MLine.cut := by
  rintro H a L c dv ok ⟨l, bs, clk, hL⟩ hc
  refine cr_of Try.func36 rfl ?_
  intro n K hn F
  have A := F.at_ hn hL.cells
  have B := F.at_ hn hL.names
  have sdv := IsSl.scalar hc.data
  have hm0 := follow_range ok 9 c.name
  have fc := fun K2 (low : ∀ f s, f < n → hget K2 f s = hget H f s) => follow_cr K2 a L ok l bs clk (hL.low (by rw [← hn]; exact low)) c.name
  unfold MLine.cut
  generalize hfw : L.follow 9 c.name = fw at *
  obtain ⟨m, e⟩ := fw
  simp only at hm0
  obtain ⟨o, ho, hk, hlk, hd⟩ := hL.obs.at_ (ok.at_ hm0.1 hm0.2)
  let X : List (Nat × Nat × O) → Prop := fun w => ∃ v, IsBytes v (sized (L.ob m).data c.b.toNat) ∧ w = [(a.f, a.s, .cells (lineC a L.snap L.owner L.prev (l.set m.toNat { o with data := v })))]
  simp only [walk, walkL, evOp, quietOp, farOp, nov, gd, rho, putT, wr, Nat.reduceAdd, Nat.reduceSub, Bool.false_eq_true, if_true, if_false, reduceIte, reduceCtorEq, walkM, Int.reduceBEq, Int.reduceBNe, Int.reduceLT, Int.reduceLE, decide_true, decide_false, eq_self, Bool.not_true, Bool.not_false, ↓ev_fa, ↓ev_field, ↓ev_load, ↓ev_store, stO_cells, List.all_cons, List.all_nil, Bool.and_self, Bool.and_true, Try.ntmps36, ta36, new, hget_hset', hset_length, and_false, false_and, and_true, true_and, and_self, Nat.reduceEqDiff, Nat.reduceLT, Nat.lt_irrefl, Nat.not_lt_zero, splice, zerosN, fillV, walkB, pureL, V.pure, Nat.reduceMul, Nat.reduceLeDiff, Nat.one_ne_zero, List.take_zero, List.drop_succ_cons, List.drop_zero, List.take_succ_cons, List.replicate_one, List.drop_nil, List.take_nil, Nat.le_refl, Nat.zero_add, Nat.zero_mul, Nat.one_mul, Nat.mul_one, F.own, F.lt, callC, sdv]
  refine W.pcall (in_fz c.b) rfl rfl rfl ?_
  rintro _ rfl
  simp only [walk, walkL, evOp, quietOp, farOp, nov, gd, rho, putT, wr, Nat.reduceAdd, Nat.reduceSub, Bool.false_eq_true, if_true, if_false, reduceIte, reduceCtorEq, walkM, Int.reduceBEq, Int.reduceBNe, Int.reduceLT, Int.reduceLE, decide_true, decide_false, eq_self, Bool.not_true, Bool.not_false, ↓ev_fa, ↓ev_field, ↓ev_load, ↓ev_store, stO_cells, List.all_cons, List.all_nil, Bool.and_self, Bool.and_true]
  refine W.ite (fun h1 => ?_) (fun h1 => ?_)
  · have h1' : inR c.b = false := by simpa using h1
    simp only [walk, walkL, evOp, quietOp, farOp, nov, gd, rho, putT, wr, Nat.reduceAdd, Nat.reduceSub, Bool.false_eq_true, if_true, if_false, reduceIte, reduceCtorEq, walkM, Int.reduceBEq, Int.reduceBNe, Int.reduceLT, Int.reduceLE, decide_true, decide_false, eq_self, Bool.not_true, Bool.not_false, ↓ev_fa, ↓ev_field, ↓ev_load, ↓ev_store, stO_cells, List.all_cons, List.all_nil, Bool.and_self, Bool.and_true]
    refine W.pcall (fails_fz 2) rfl rfl rfl ?_
    rintro _ rfl
    simp only [walk, walkL, evOp, quietOp, farOp, nov, gd, rho, putT, wr, Nat.reduceAdd, Nat.reduceSub, Bool.false_eq_true, if_true, if_false, reduceIte, reduceCtorEq, walkM, Int.reduceBEq, Int.reduceBNe, Int.reduceLT, Int.reduceLE, decide_true, decide_false, eq_self, Bool.not_true, Bool.not_false, ↓ev_fa, ↓ev_field, ↓ev_load, ↓ev_store, stO_cells, List.all_cons, List.all_nil, Bool.and_self, Bool.and_true, failV, ta36, new, hget_hset', hset_length, and_false, false_and, and_true, true_and, and_self, Nat.reduceEqDiff, Nat.reduceLT, Nat.lt_irrefl, Nat.not_lt_zero, F.lt, splice, zerosN, fillV, walkB, pureL, V.pure, Nat.reduceMul, Nat.reduceLeDiff, Nat.one_ne_zero, List.take_zero, List.drop_succ_cons, List.drop_zero, List.take_succ_cons, List.replicate_one, List.drop_nil, List.take_nil, Nat.le_refl, Nat.zero_add, Nat.zero_mul, Nat.one_mul, Nat.mul_one]
    refine W.done (EndK.ret (res_cell rfl rfl (hget_same (by first | exact F.lt | assumption | (simp only [hset_length]; first | exact F.lt | assumption))) (by rw [rd36]; rfl)) ?_)
    rw [h1']
    exact ⟨rep_fail 2, line_same hL (F.ch hn (by first | rfl | simp only [hset_length]) (fun f' s' h => by first | rfl | simp only [hget_hset', hset_length, F.lt, Nat.ne_of_lt h, false_and, if_false, AM.lk, *, -hn]))⟩
  · have h1' : inR c.b = true := by simpa using h1
    have hr : 0 ≤ c.b ∧ c.b ≤ 3840 := by simpa [inR] using h1'
    simp only [walk, walkL, evOp, quietOp, farOp, nov, gd, rho, putT, wr, Nat.reduceAdd, Nat.reduceSub, Bool.false_eq_true, if_true, if_false, reduceIte, reduceCtorEq, walkM, Int.reduceBEq, Int.reduceBNe, Int.reduceLT, Int.reduceLE, decide_true, decide_false, eq_self, Bool.not_true, Bool.not_false, ↓ev_fa, ↓ev_field, ↓ev_load, ↓ev_store, stO_cells, List.all_cons, List.all_nil, Bool.and_self, Bool.and_true, ta36, new, hget_hset', hset_length, and_false, false_and, and_true, true_and, and_self, Nat.reduceEqDiff, Nat.reduceLT, Nat.lt_irrefl, Nat.not_lt_zero, zerosN, fillV, walkB, pureL, V.pure, Nat.reduceMul, Nat.reduceLeDiff, Nat.one_ne_zero, List.take_zero, List.drop_succ_cons, List.drop_zero, List.take_succ_cons, List.replicate_one, List.drop_nil, List.take_nil, Nat.le_refl, Nat.zero_add, Nat.zero_mul, Nat.one_mul, Nat.mul_one, A.get, A.ltK, B.get, B.ltK, lc_0, lc_1, lc_2, lc_3, lc_4, Nat.add_zero, callC, F.lt]
    refine W.call (fc _ (fun f s h => by simp only [hget_hset', hset_length, F.lt, Nat.ne_of_lt h, false_and, if_false]; exact F.low f s h)) rfl rfl rfl rfl rfl ?_
    rintro _ J ⟨rfl, cj⟩
    have lj : n < J.length := cj.lt (by simp only [hset_length]; exact F.lt)
    have lowj : ∀ f s, f < n → hget J f s = hget H f s := fun f s h => by
      rw [cj.get f s (by simp only [hset_length]; have := F.lt; omega)]
      simp only [hget_hset', hset_length, F.lt, Nat.ne_of_lt h, false_and, if_false, lk]; exact F.low f s h
    have oj := fun s => cj.own (s := s) (f := n) (by simp only [hset_length]; exact F.lt) (by simp)
    simp only [walk, walkL, evOp, quietOp, farOp, nov, gd, rho, putT, wr, Nat.reduceAdd, Nat.reduceSub, Bool.false_eq_true, if_true, if_false, reduceIte, reduceCtorEq, walkM, Int.reduceBEq, Int.reduceBNe, Int.reduceLT, Int.reduceLE, decide_true, decide_false, eq_self, Bool.not_true, Bool.not_false, ↓ev_fa, ↓ev_field, ↓ev_load, ↓ev_store, stO_cells, List.all_cons, List.all_nil, Bool.and_self, Bool.and_true, ta36, new, hget_hset', hset_length, and_false, false_and, and_true, true_and, and_self, Nat.reduceEqDiff, Nat.reduceLT, Nat.lt_irrefl, Nat.not_lt_zero, splice, zerosN, fillV, walkB, pureL, V.pure, Nat.reduceMul, Nat.reduceLeDiff, Nat.one_ne_zero, List.take_zero, List.drop_succ_cons, List.drop_zero, List.take_succ_cons, List.replicate_one, List.drop_nil, List.take_nil, Nat.le_refl, Nat.zero_add, Nat.zero_mul, Nat.one_mul, Nat.mul_one, F.own, F.lt, A.get, A.ltK, B.get, B.ltK, lc_0, lc_1, lc_2, lc_3, lc_4, Nat.add_zero, callC, lj, oj]
    have hfin : ∀ K2 : Heap, n < K2.length → (∀ f s, f < n → hget K2 f s = hget H f s) → hget K2 n 5 = some (.cells [.int .i64 m]) → hget K2 n 2 = some (.cells [.ptr a.f a.s 0]) → hget K2 n 3 = some (.cells (callC c dv)) →
        CR Try.prog pol 48 [.ptr a.f a.s 0, .int .i64 e, .func (.func 57) [] [.ptr n 2 0, .ptr n 5 0, .ptr n 3 0]] K2 fun v K3 => v = failV (turnE e L.snap) ∧ (∃ w, (turnE e L.snap = 0 → X w) ∧ Ch K2 K3 (if turnE e L.snap = 0 then w else [])) ∧ n < K3.length ∧ ∀ s, hget K3 n s = hget K2 n s := by
      intro K2 hlt low g5 g2 g3
      have hL2 := hL.low (K := K2) (by rw [← hn]; exact low)
      refine turned_nX n K2 a L.snap L.owner L.prev l hL2.cells _ _ _ X rfl rfl rfl rfl hlt ?_ (fun hz _ J cj => ?_)
      · rintro w ⟨v, _, rfl⟩; exact low1 A.lt
      · refine (cut1_cr J n a L ok l bs clk (hL2.ch cj) c dv m hm0.1 hm0.2 o ho (L.ob m).data hd c.b.toNat (by omega) (by omega) A.lt ((cj.get _ _ hlt).trans g5) ((cj.get _ _ hlt).trans g2) ((cj.get _ _ hlt).trans g3)).mono ?_
        rintro _ J' ⟨v, hv, hch⟩
        exact ⟨_, ⟨v, hv, rfl⟩, hch⟩
    refine W.call (hfin _ (by simp only [hset_length]; exact lj) (fun f s h => by simp only [hget_hset', hset_length, lj, Nat.ne_of_lt h, false_and, if_false]; exact lowj f s h) (hget_same (by simp only [hset_length]; exact lj))
      (by simp only [hget_hset', hset_length, lj, Nat.reduceEqDiff, and_false, if_false]; exact (oj 2).trans (by simp only [hget_hset', hset_length, F.lt, and_self, and_true, and_false, true_and, eq_self, if_true, if_false, Nat.reduceEqDiff, callC]; try rfl)) (by simp only [hget_hset', hset_length, lj, Nat.reduceEqDiff, and_false, if_false]; exact (oj 3).trans (by simp only [hget_hset', hset_length, F.lt, and_self, and_true, and_false, true_and, eq_self, if_true, if_false, Nat.reduceEqDiff, callC]; try rfl))) rfl rfl rfl rfl rfl ?_
    rintro _ K3 ⟨rfl, ⟨w, hX, c3⟩, l3, o3⟩
    simp only [walk, walkL, evOp, quietOp, farOp, nov, gd, rho, putT, wr, Nat.reduceAdd, Nat.reduceSub, Bool.false_eq_true, if_true, if_false, reduceIte, reduceCtorEq, walkM, Int.reduceBEq, Int.reduceBNe, Int.reduceLT, Int.reduceLE, decide_true, decide_false, eq_self, Bool.not_true, Bool.not_false, ↓ev_fa, ↓ev_field, ↓ev_load, ↓ev_store, stO_cells, List.all_cons, List.all_nil, Bool.and_self, Bool.and_true, failV, ta36, new, hget_hset', hset_length, and_false, false_and, and_true, true_and, and_self, Nat.reduceEqDiff, Nat.reduceLT, Nat.lt_irrefl, Nat.not_lt_zero, l3, o3, oj, lj, F.lt, splice, zerosN, fillV, walkB, pureL, V.pure, Nat.reduceMul, Nat.reduceLeDiff, Nat.one_ne_zero, List.take_zero, List.drop_succ_cons, List.drop_zero, List.take_succ_cons, List.replicate_one, List.drop_nil, List.take_nil, Nat.le_refl, Nat.zero_add, Nat.zero_mul, Nat.one_mul, Nat.mul_one]
    refine W.done (EndK.ret (res_cell rfl rfl (hget_same (by first | exact F.lt | assumption | (simp only [hset_length]; first | exact F.lt | assumption))) (by rw [rd36]; rfl)) ?_)
    rw [h1']
    refine turn_conc hL (w := w) (Ch.fin hn (fun f s h => by simp only [hget_hset', hset_length, lj, Nat.ne_of_lt h, false_and, if_false]; exact lowj f s h) (by simp only [hset_length]; exact lj) c3) fun _ hz2 h => ?_
    obtain ⟨v, hv, rfl⟩ := hX hz2
    refine line_upd (hget_lt hL.cells) (hget_lt hL.names) h ?_ (l' := l.set m.toNat { o with data := v }) (bs' := bs) (clk' := clk) ?_ ?_ ?_ ?_
    · intro x hx; simp only [List.mem_cons, List.not_mem_nil, or_false] at hx; rcases hx with rfl; simp
    · simp only [AM.lk, and_self, if_true, MLine.setOb]
    · simp only [AM.lk, hL.ne2, and_self, if_true, if_false]; exact hL.names
    · exact hL.obs.set _ ⟨hk, hlk, hv⟩
    · exact hL.born
end Go.Proofs.Ytebbgmeomkjibaa
end
section
/- model: write, read, stat, list. -/
set_option maxRecDepth 100000
namespace Go.Proofs.Ytebbgmeomkjibaa
open Go.AM Go.Mod

attribute [local irreducible] U W lineC

theorem write_l : LSpec 35 MLine.write := by
  rintro H a L c dv ok ⟨l, bs, clk, hL⟩ hc
  refine cr_of Try.func35 rfl ?_
  intro n K hn F
  have A := F.at_ hn hL.cells
  have B := F.at_ hn hL.names
  have sdv := IsSl.scalar hc.data
  have ln1 := hc.data.len Try.underlying26
  have hm0 := follow_range ok 9 c.name
  have fc := fun K2 (low : ∀ f s, f < n → hget K2 f s = hget H f s) => follow_cr K2 a L ok l bs clk (hL.low (by rw [← hn]; exact low)) c.name
  have hw : L.write c = if !inR c.c || decide ((c.data.length : Int) > 3840 - c.c) then (L, fail 2) else L.turn (L.follow 9 c.name).2 (L.setOb (L.follow 9 c.name).1 { L.ob (L.follow 9 c.name).1 with data := wrote (L.ob (L.follow 9 c.name).1).data c.c.toNat c.data }) := rfl
  generalize hfw : L.follow 9 c.name = fw at *
  obtain ⟨m, e⟩ := fw
  simp only at hm0
  obtain ⟨o, ho, hk, hlk, hd⟩ := hL.obs.at_ (ok.at_ hm0.1 hm0.2)
  let X : List (Nat × Nat × O) → Prop := fun w => ∃ v, IsBytes v (wrote (L.ob m).data c.c.toNat c.data) ∧ w = [(a.f, a.s, .cells (lineC a L.snap L.owner L.prev (l.set m.toNat { o with data := v })))]
  simp only [walk, walkL, evOp, quietOp, farOp, nov, gd, rho, putT, wr, Nat.reduceAdd, Nat.reduceSub, Bool.false_eq_true, if_true, if_false, reduceIte, reduceCtorEq, walkM, Int.reduceBEq, Int.reduceBNe, Int.reduceLT, Int.reduceLE, decide_true, decide_false, eq_self, Bool.not_true, Bool.not_false, ↓ev_fa, ↓ev_field, ↓ev_load, ↓ev_store, stO_cells, List.all_cons, List.all_nil, Bool.and_self, Bool.and_true, Try.ntmps35, ta35, new, hget_hset', hset_length, and_false, false_and, and_true, true_and, and_self, Nat.reduceEqDiff, Nat.reduceLT, Nat.lt_irrefl, Nat.not_lt_zero, splice, zerosN, fillV, walkB, pureL, V.pure, Nat.reduceMul, Nat.reduceLeDiff, Nat.one_ne_zero, List.take_zero, List.drop_succ_cons, List.drop_zero, List.take_succ_cons, List.replicate_one, List.drop_nil, List.take_nil, Nat.le_refl, Nat.zero_add, Nat.zero_mul, Nat.one_mul, Nat.mul_one, F.own, F.lt, callC, sdv]
  refine W.pcall (in_fz c.c) rfl rfl rfl ?_
  rintro _ rfl
  have bad : ∀ K2 : Heap, Ch H K2 [] → inR c.c = false ∨ decide ((c.data.length : Int) > 3840 - c.c) = true → RepV (failV 2) (L.write c).2 ∧ LineIn K2 a (L.write c).1 ∧ Rest H K2 a := by
    intro K2 hch h
    have hb : (!inR c.c || decide ((c.data.length : Int) > 3840 - c.c)) = true := by
      rcases h with h | h
      · rw [h]; rfl
      · rw [h, Bool.or_true]
    rw [hw, if_pos hb]
    exact ⟨rep_fail 2, line_same hL hch⟩
  simp only [walk, walkL, evOp, quietOp, farOp, nov, gd, rho, putT, wr, Nat.reduceAdd, Nat.reduceSub, Bool.false_eq_true, if_true, if_false, reduceIte, reduceCtorEq, walkM, Int.reduceBEq, Int.reduceBNe, Int.reduceLT, Int.reduceLE, decide_true, decide_false, eq_self, Bool.not_true, Bool.not_false, ↓ev_fa, ↓ev_field, ↓ev_load, ↓ev_store, stO_cells, List.all_cons, List.all_nil, Bool.and_self, Bool.and_true]
  refine W.guardF (fun h1 => ?_) (fun h1 => ?_)
  · have h1' : inR c.c = true := by simpa using h1
    have hr : 0 ≤ c.c ∧ c.c ≤ 3840 := by simpa [inR] using h1'
    have w1 : (IntKind.i64).wrap (3840 - c.c) = 3840 - c.c := by rw [wrap_i64] <;> omega
    simp only [walk, walkL, evOp, quietOp, farOp, nov, gd, rho, putT, wr, Nat.reduceAdd, Nat.reduceSub, Bool.false_eq_true, if_true, if_false, reduceIte, reduceCtorEq, walkM, Int.reduceBEq, Int.reduceBNe, Int.reduceLT, Int.reduceLE, decide_true, decide_false, eq_self, Bool.not_true, Bool.not_false, ↓ev_fa, ↓ev_field, ↓ev_load, ↓ev_store, stO_cells, List.all_cons, List.all_nil, Bool.and_self, Bool.and_true, ta35, new, hget_hset', hset_length, and_false, false_and, and_true, true_and, and_self, Nat.reduceEqDiff, Nat.reduceLT, Nat.lt_irrefl, Nat.not_lt_zero, splice, zerosN, fillV, walkB, pureL, V.pure, Nat.reduceMul, Nat.reduceLeDiff, Nat.one_ne_zero, List.take_zero, List.drop_succ_cons, List.drop_zero, List.take_succ_cons, List.replicate_one, List.drop_nil, List.take_nil, Nat.le_refl, Nat.zero_add, Nat.zero_mul, Nat.one_mul, Nat.mul_one, F.own, F.lt, A.get, A.ltK, B.get, B.ltK, lc_0, lc_1, lc_2, lc_3, lc_4, Nat.add_zero, callC, ln1, w1, h1']
    refine W.ite (fun h2 => ?_) (fun h2 => ?_)
    · simp only [walk, walkL, evOp, quietOp, farOp, nov, gd, rho, putT, wr, Nat.reduceAdd, Nat.reduceSub, Bool.false_eq_true, if_true, if_false, reduceIte, reduceCtorEq, walkM, Int.reduceBEq, Int.reduceBNe, Int.reduceLT, Int.reduceLE, decide_true, decide_false, eq_self, Bool.not_true, Bool.not_false, ↓ev_fa, ↓ev_field, ↓ev_load, ↓ev_store, stO_cells, List.all_cons, List.all_nil, Bool.and_self, Bool.and_true]
      refine W.pcall (fails_fz 2) rfl rfl rfl ?_
      rintro _ rfl
      simp only [walk, walkL, evOp, quietOp, farOp, nov, gd, rho, putT, wr, Nat.reduceAdd, Nat.reduceSub, Bool.false_eq_true, if_true, if_false, reduceIte, reduceCtorEq, walkM, Int.reduceBEq, Int.reduceBNe, Int.reduceLT, Int.reduceLE, decide_true, decide_false, eq_self, Bool.not_true, Bool.not_false, ↓ev_fa, ↓ev_field, ↓ev_load, ↓ev_store, stO_cells, List.all_cons, List.all_nil, Bool.and_self, Bool.and_true, failV, ta35, new, hget_hset', hset_length, and_false, false_and, and_true, true_and, and_self, Nat.reduceEqDiff, Nat.reduceLT, Nat.lt_irrefl, Nat.not_lt_zero, F.lt, splice, zerosN, fillV, walkB, pureL, V.pure, Nat.reduceMul, Nat.reduceLeDiff, Nat.one_ne_zero, List.take_zero, List.drop_succ_cons, List.drop_zero, List.take_succ_cons, List.replicate_one, List.drop_nil, List.take_nil, Nat.le_refl, Nat.zero_add, Nat.zero_mul, Nat.one_mul, Nat.mul_one]
      refine W.done (EndK.ret (res_cell rfl rfl (hget_same (by first | exact F.lt | assumption | (simp only [hset_length]; first | exact F.lt | assumption))) (by rw [rd36]; rfl)) (bad _ (F.ch hn (by first | rfl | simp only [hset_length]) (fun f' s' h => by first | rfl | simp only [hget_hset', hset_length, F.lt, Nat.ne_of_lt h, false_and, if_false, AM.lk, *, -hn])) (.inr h2)))
    · have h2' : ¬ ((c.data.length : Int) > 3840 - c.c) := of_decide_eq_false h2
      have hb : (!inR c.c || decide ((c.data.length : Int) > 3840 - c.c)) = false := by rw [h1', h2]; rfl
      rw [hb] at hw
      simp only [Bool.false_eq_true, if_false] at hw
      rw [hw]
      simp only [walk, walkL, evOp, quietOp, farOp, nov, gd, rho, putT, wr, Nat.reduceAdd, Nat.reduceSub, Bool.false_eq_true, if_true, if_false, reduceIte, reduceCtorEq, walkM, Int.reduceBEq, Int.reduceBNe, Int.reduceLT, Int.reduceLE, decide_true, decide_false, eq_self, Bool.not_true, Bool.not_false, ↓ev_fa, ↓ev_field, ↓ev_load, ↓ev_store, stO_cells, List.all_cons, List.all_nil, Bool.and_self, Bool.and_true, ta35, new, hget_hset', hset_length, and_false, false_and, and_true, true_and, and_self, Nat.reduceEqDiff, Nat.reduceLT, Nat.lt_irrefl, Nat.not_lt_zero, zerosN, fillV, walkB, pureL, V.pure, Nat.reduceMul, Nat.reduceLeDiff, Nat.one_ne_zero, List.take_zero, List.drop_succ_cons, List.drop_zero, List.take_succ_cons, List.replicate_one, List.drop_nil, List.take_nil, Nat.le_refl, Nat.zero_add, Nat.zero_mul, Nat.one_mul, Nat.mul_one, A.get, A.ltK, B.get, B.ltK, lc_0, lc_1, lc_2, lc_3, lc_4, Nat.add_zero, callC, F.lt]
      refine W.call (fc _ (fun f s h => by simp only [hget_hset', hset_length, F.lt, Nat.ne_of_lt h, false_and, if_false]; exact F.low f s h)) rfl rfl rfl rfl rfl ?_
      rintro _ J ⟨rfl, cj⟩
      have lj : n < J.length := cj.lt (by simp only [hset_length]; exact F.lt)
      have lowj : ∀ f s, f < n → hget J f s = hget H f s := fun f s h => by
        rw [cj.get f s (by simp only [hset_length]; have := F.lt; omega)]
        simp only [hget_hset', hset_length, F.lt, Nat.ne_of_lt h, false_and, if_false, lk]; exact F.low f s h
      have oj := fun s => cj.own (s := s) (f := n) (by simp only [hset_length]; exact F.lt) (by simp)
      simp only [walk, walkL, evOp, quietOp, farOp, nov, gd, rho, putT, wr, Nat.reduceAdd, Nat.reduceSub, Bool.false_eq_true, if_true, if_false, reduceIte, reduceCtorEq, walkM, Int.reduceBEq, Int.reduceBNe, Int.reduceLT, Int.reduceLE, decide_true, decide_false, eq_self, Bool.not_true, Bool.not_false, ↓ev_fa, ↓ev_field, ↓ev_load, ↓ev_store, stO_cells, List.all_cons, List.all_nil, Bool.and_self, Bool.and_true, ta35, new, hget_hset', hset_length, and_false, false_and, and_true, true_and, and_self, Nat.reduceEqDiff, Nat.reduceLT, Nat.lt_irrefl, Nat.not_lt_zero, splice, zerosN, fillV, walkB, pureL, V.pure, Nat.reduceMul, Nat.reduceLeDiff, Nat.one_ne_zero, List.take_zero, List.drop_succ_cons, List.drop_zero, List.take_succ_cons, List.replicate_one, List.drop_nil, List.take_nil, Nat.le_refl, Nat.zero_add, Nat.zero_mul, Nat.one_mul, Nat.mul_one, F.own, F.lt, A.get, A.ltK, B.get, B.ltK, lc_0, lc_1, lc_2, lc_3, lc_4, Nat.add_zero, callC, lj, oj]
      have hfin : ∀ K2 : Heap, n < K2.length → (∀ f s, f < n → hget K2 f s = hget H f s) → hget K2 n 5 = some (.cells [.int .i64 m]) → hget K2 n 2 = some (.cells [.ptr a.f a.s 0]) → hget K2 n 3 = some (.cells (callC c dv)) →
          CR Try.prog pol 48 [.ptr a.f a.s 0, .int .i64 e, .func (.func 55) [] [.ptr n 2 0, .ptr n 5 0, .ptr n 3 0]] K2 fun v K3 => v = failV (turnE e L.snap) ∧ (∃ w, (turnE e L.snap = 0 → X w) ∧ Ch K2 K3 (if turnE e L.snap = 0 then w else [])) ∧ n < K3.length ∧ ∀ s, hget K3 n s = hget K2 n s := by
        intro K2 hlt low g5 g2 g3
        have hL2 := hL.low (K := K2) (by rw [← hn]; exact low)
        refine turned_nX n K2 a L.snap L.owner L.prev l hL2.cells _ _ _ X rfl rfl rfl rfl hlt ?_ (fun hz _ J cj => ?_)
        · rintro w ⟨v, _, rfl⟩; exact low1 A.lt
        · refine (write1_cr J n a L ok l bs clk (hL2.ch cj) c dv hc.data m hm0.1 hm0.2 o ho (L.ob m).data hd (ok.dat m) c.c.toNat (by omega) (by omega) A.lt ((cj.get _ _ hlt).trans g5) ((cj.get _ _ hlt).trans g2) ((cj.get _ _ hlt).trans g3)).mono ?_
          rintro _ J' ⟨v, hv, hch⟩
          exact ⟨_, ⟨v, hv, rfl⟩, hch⟩
      refine W.call (hfin _ (by simp only [hset_length]; exact lj) (fun f s h => by simp only [hget_hset', hset_length, lj, Nat.ne_of_lt h, false_and, if_false]; exact lowj f s h) (hget_same (by simp only [hset_length]; exact lj))
        (by simp only [hget_hset', hset_length, lj, Nat.reduceEqDiff, and_false, if_false]; exact (oj 2).trans (by simp only [hget_hset', hset_length, F.lt, and_self, and_true, and_false, true_and, eq_self, if_true, if_false, Nat.reduceEqDiff, callC]; try rfl)) (by simp only [hget_hset', hset_length, lj, Nat.reduceEqDiff, and_false, if_false]; exact (oj 3).trans (by simp only [hget_hset', hset_length, F.lt, and_self, and_true, and_false, true_and, eq_self, if_true, if_false, Nat.reduceEqDiff, callC]; try rfl))) rfl rfl rfl rfl rfl ?_
      rintro _ K3 ⟨rfl, ⟨w, hX, c3⟩, l3, o3⟩
      simp only [walk, walkL, evOp, quietOp, farOp, nov, gd, rho, putT, wr, Nat.reduceAdd, Nat.reduceSub, Bool.false_eq_true, if_true, if_false, reduceIte, reduceCtorEq, walkM, Int.reduceBEq, Int.reduceBNe, Int.reduceLT, Int.reduceLE, decide_true, decide_false, eq_self, Bool.not_true, Bool.not_false, ↓ev_fa, ↓ev_field, ↓ev_load, ↓ev_store, stO_cells, List.all_cons, List.all_nil, Bool.and_self, Bool.and_true, failV, ta35, new, hget_hset', hset_length, and_false, false_and, and_true, true_and, and_self, Nat.reduceEqDiff, Nat.reduceLT, Nat.lt_irrefl, Nat.not_lt_zero, l3, o3, oj, lj, F.lt, splice, zerosN, fillV, walkB, pureL, V.pure, Nat.reduceMul, Nat.reduceLeDiff, Nat.one_ne_zero, List.take_zero, List.drop_succ_cons, List.drop_zero, List.take_succ_cons, List.replicate_one, List.drop_nil, List.take_nil, Nat.le_refl, Nat.zero_add, Nat.zero_mul, Nat.one_mul, Nat.mul_one]
      refine W.done (EndK.ret (res_cell rfl rfl (hget_same (by first | exact F.lt | assumption | (simp only [hset_length]; first | exact F.lt | assumption))) (by rw [rd36]; rfl)) ?_)
      refine turn_conc hL (w := w) (Ch.fin hn (fun f s h => by simp only [hget_hset', hset_length, lj, Nat.ne_of_lt h, false_and, if_false]; exact lowj f s h) (by simp only [hset_length]; exact lj) c3) fun _ hz2 h => ?_
      obtain ⟨v, hv, rfl⟩ := hX hz2
      refine line_upd (hget_lt hL.cells) (hget_lt hL.names) h ?_ (l' := l.set m.toNat { o with data := v }) (bs' := bs) (clk' := clk) ?_ ?_ ?_ ?_
      · intro x hx; simp only [List.mem_cons, List.not_mem_nil, or_false] at hx; rcases hx with rfl; simp
      · simp only [AM.lk, and_self, if_true, MLine.setOb]
      · simp only [AM.lk, hL.ne2, and_self, if_true, if_false]; exact hL.names
      · exact hL.obs.set _ ⟨hk, hlk, hv⟩
      · exact hL.born
  · have h1' : inR c.c = false := by simpa using h1
    simp only [walk, walkL, evOp, quietOp, farOp, nov, gd, rho, putT, wr, Nat.reduceAdd, Nat.reduceSub, Bool.false_eq_true, if_true, if_false, reduceIte, reduceCtorEq, walkM, Int.reduceBEq, Int.reduceBNe, Int.reduceLT, Int.reduceLE, decide_true, decide_false, eq_self, Bool.not_true, Bool.not_false, ↓ev_fa, ↓ev_field, ↓ev_load, ↓ev_store, stO_cells, List.all_cons, List.all_nil, Bool.and_self, Bool.and_true, h1']
    refine W.pcall (fails_fz 2) rfl rfl rfl ?_
    rintro _ rfl
    simp only [walk, walkL, evOp, quietOp, farOp, nov, gd, rho, putT, wr, Nat.reduceAdd, Nat.reduceSub, Bool.false_eq_true, if_true, if_false, reduceIte, reduceCtorEq, walkM, Int.reduceBEq, Int.reduceBNe, Int.reduceLT, Int.reduceLE, decide_true, decide_false, eq_self, Bool.not_true, Bool.not_false, ↓ev_fa, ↓ev_field, ↓ev_load, ↓ev_store, stO_cells, List.all_cons, List.all_nil, Bool.and_self, Bool.and_true, failV, ta35, new, hget_hset', hset_length, and_false, false_and, and_true, true_and, and_self, Nat.reduceEqDiff, Nat.reduceLT, Nat.lt_irrefl, Nat.not_lt_zero, F.lt, splice, zerosN, fillV, walkB, pureL, V.pure, Nat.reduceMul, Nat.reduceLeDiff, Nat.one_ne_zero, List.take_zero, List.drop_succ_cons, List.drop_zero, List.take_succ_cons, List.replicate_one, List.drop_nil, List.take_nil, Nat.le_refl, Nat.zero_add, Nat.zero_mul, Nat.one_mul, Nat.mul_one]
    refine W.done (EndK.ret (res_cell rfl rfl (hget_same (by first | exact F.lt | assumption | (simp only [hset_length]; first | exact F.lt | assumption))) (by rw [rd36]; rfl)) (bad _ (F.ch hn (by first | rfl | simp only [hset_length]) (fun f' s' h => by first | rfl | simp only [hget_hset', hset_length, F.lt, Nat.ne_of_lt h, false_and, if_false, AM.lk, *, -hn])) (.inl h1')))

theorem clone_fn (v : V) (l : Bytes) (hv : IsBytes v l) (hl : l.length ≤ 1000000) : Look Try.prog pol 54 [v] fun r => IsBytes r l := by
  refine Look.of_cr (cr_of Try.func54 rfl ?_)
  intro n K hn F
  obtain ⟨hlen, ⟨rfl, h0⟩ | ⟨f, rfl⟩⟩ := hv
  · have h0' : l = [] := List.eq_nil_of_length_eq_zero h0
    subst h0'
    simp only [walk, walkL, evOp, quietOp, farOp, nov, gd, rho, putT, wr, Nat.reduceAdd, Nat.reduceSub, Bool.false_eq_true, if_true, if_false, reduceIte, reduceCtorEq, walkM, Int.reduceBEq, Int.reduceBNe, Int.reduceLT, Int.reduceLE, decide_true, decide_false, eq_self, Bool.not_true, Bool.not_false, ↓ev_fa, ↓ev_field, ↓ev_load, ↓ev_store, stO_cells, List.all_cons, List.all_nil, Bool.and_self, Bool.and_true, Try.ntmps54, ta54, new, hget_hset', hset_length, and_false, false_and, and_true, true_and, and_self, Nat.reduceEqDiff, Nat.reduceLT, Nat.lt_irrefl, Nat.not_lt_zero, zerosN, fillV, walkB, pureL, V.pure, Nat.reduceMul, Nat.reduceLeDiff, Nat.one_ne_zero, List.take_zero, List.drop_succ_cons, List.drop_zero, List.take_succ_cons, List.replicate_one, List.drop_nil, List.take_nil, Nat.le_refl, Nat.zero_add, Nat.zero_mul, Nat.one_mul, Nat.mul_one, F.own, F.lt, bn_sl0 Try.underlying26]
    exact W.done (EndK.ret rfl ⟨.nilslice, rfl, IsBytes.nil⟩)
  · cases l with
    | nil =>
      have ap := fun g => app_none (P := Try.prog) (mt := pol.mt 54) (fr := n) (dst := some 7) (g := g) (t := 26) (t2 := 26) (s := .mslice n 5 0 0 (some 0) 1) (x := .islice (ofBytes []) ([] : Bytes).length f) (cs := []) Try.underlying26 sz5 by_u8 zc5 rfl Try.underlying26 rfl rfl
      simp only [List.length_nil] at ap
      simp only [walk, walkL, evOp, quietOp, farOp, nov, gd, rho, putT, wr, Nat.reduceAdd, Nat.reduceSub, Bool.false_eq_true, if_true, if_false, reduceIte, reduceCtorEq, walkM, Int.reduceBEq, Int.reduceBNe, Int.reduceLT, Int.reduceLE, decide_true, decide_false, eq_self, Bool.not_true, Bool.not_false, ↓ev_fa, ↓ev_field, ↓ev_load, ↓ev_store, stO_cells, List.all_cons, List.all_nil, Bool.and_self, Bool.and_true, Try.ntmps54, ta54, new, hget_hset', hset_length, and_false, false_and, and_true, true_and, and_self, Nat.reduceEqDiff, Nat.reduceLT, Nat.lt_irrefl, Nat.not_lt_zero, zerosN, fillV, walkB, pureL, V.pure, Nat.reduceMul, Nat.reduceLeDiff, Nat.one_ne_zero, List.take_zero, List.drop_succ_cons, List.drop_zero, List.take_succ_cons, List.replicate_one, List.drop_nil, List.take_nil, Nat.le_refl, Nat.zero_add, Nat.zero_mul, Nat.one_mul, Nat.mul_one, F.own, F.lt, bn_sl1 Try.underlying26, bi_append, ↓ap, Try.underlying26, show pol.mt 54 5 = true from rfl]
      refine W.done (EndK.ret rfl ?_)
      rw [popF_keep (by simp only [List.getD_cons_succ, List.getD_cons_zero, V.refs]; simp)]
      exact ⟨_, frzN_own (l := []) (hget_same F.lt) rfl (Nat.le_refl _), IsBytes.mk [] _⟩
    | cons b l =>
      have ap := fun g hg => app_m0 (P := Try.prog) (mt := pol.mt 54) (fr := n) (dst := some 7) (g := g) (t := 26) (t2 := 26) (x := .islice (ofBytes (b :: l)) (b :: l).length f) (m := (b :: l).length) (f := n) (s := 5) Try.underlying26 sz5 by_u8 zc5 rfl Try.underlying26 (IsSl.sc (IsBytes.mk (b :: l) f)) (by simp) (roomy_of (by omega) (by omega)) hg
      have gm := fun g hg => grown_mt (mt := pol.mt 54) (fr := n) (d := 7) (g := g) (cs := [] ++ ofBytes (b :: l)) (chk := [] ++ ofBytes (b :: l)) (m := 0 + (b :: l).length) (n := 1) rfl (scalar_ofBytes _) hg
      generalize b :: l = L at *
      simp only [List.nil_append, Nat.zero_add] at ap gm
      simp only [walk, walkL, evOp, quietOp, farOp, nov, gd, rho, putT, wr, Nat.reduceAdd, Nat.reduceSub, Bool.false_eq_true, if_true, if_false, reduceIte, reduceCtorEq, walkM, Int.reduceBEq, Int.reduceBNe, Int.reduceLT, Int.reduceLE, decide_true, decide_false, eq_self, Bool.not_true, Bool.not_false, ↓ev_fa, ↓ev_field, ↓ev_load, ↓ev_store, stO_cells, List.all_cons, List.all_nil, Bool.and_self, Bool.and_true, Try.ntmps54, ta54, new, hget_hset', hset_length, and_false, false_and, and_true, true_and, and_self, eq_self, Nat.reduceEqDiff, Nat.reduceLT, Nat.lt_irrefl, Nat.not_lt_zero, zerosN, fillV, walkB, pureL, V.pure, Nat.reduceMul, Nat.reduceLeDiff, Nat.one_ne_zero, and_self, and_true, true_and, List.take_zero, List.drop_succ_cons, List.drop_zero, List.take_succ_cons, List.replicate_one, Bool.and_self, Bool.and_true, List.drop_nil, List.take_nil, Nat.le_refl, Nat.zero_add, Nat.zero_mul, Nat.one_mul, Nat.mul_one, F.own, F.lt, bn_sl1 Try.underlying26, bi_append, ↓ap _ (hget_same F.lt), Try.underlying26, show pol.mt 54 5 = true from rfl, gm (hget (hset K n 5 (O.cells []))) (by rw [hget_slot F.lt (by decide)]; exact F.own 7)]
      refine W.done (EndK.ret rfl ?_)
      rw [popF_keep (by simp only [List.getD_cons_succ, List.getD_cons_zero, V.refs]; simp)]
      exact ⟨_, frzN_own (hget_same (by simp only [hset_length]; exact F.lt)) (by rw [List.drop_zero, List.take_of_length_le]; rw [ofBytes_length]; exact Nat.le_refl _) (by rw [ofBytes_length]; omega), IsBytes.mk L _⟩
end Go.Proofs.Ytebbgmeomkjibaa
end
