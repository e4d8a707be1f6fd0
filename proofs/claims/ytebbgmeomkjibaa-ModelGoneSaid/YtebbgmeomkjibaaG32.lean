/- This file holds in one the texts O5; each says at its head what it proves. -/
import Derived.Test.YtebbgmeomkjibaaG31
set_option linter.unusedSimpArgs false
set_option linter.unusedVariables false
section
/- model: link, unlink, rename. -/
set_option maxRecDepth 100000
namespace Go.Proofs.Ytebbgmeomkjibaa
open Go.AM Go.Mod

attribute [local irreducible] U W lineC

def callC (c : MCall) (dv : V) : List V := [.int .u8 c.kind, .int .i64 c.a, .int .i64 c.b, .int .i64 c.c, .str c.name, .str c.as_, .str c.text, dv]
def RepV (v : V) (r : MReply) : Prop := ∃ dv nv lv, v = .agg [.int .i64 r.err, .int .i64 r.id, dv, nv, .int .i64 r.info.obj, .int .u8 r.info.kind, .int .i64 r.info.links, .int .i64 r.info.size, .str r.info.to, lv] ∧ IsBytes dv r.data ∧
  IsSl 1 nv (r.names.map .str) r.names.length ∧ IsInts lv r.lines
theorem rep_fail (e : Int) : RepV (failV e) (fail e) := ⟨.nilslice, .nilslice, .nilslice, rfl, IsBytes.nil, IsSl.nil, IsInts.nil⟩

theorem ia_ob {f s : Nat} {i : Int} (h0 : 0 ≤ i) (h1 : i < 16) : indexAddrV Try.prog 65 (.ptr f s 5) (.int .i64 i) = some (.ptr f s (5 + i.toNat * 3)) := by
  rw [ia_arr Try.underlying65 sz64, if_pos (by constructor <;> omega)]
theorem up_names {g : Get} {nf ns : Nat} {l : List (Bytes × Int)} {bs : List Nat} {clk : Nat} (h : g nf ns = some (.map (encN l) bs clk)) {s : Bytes} (hs : numOf l s = none) (n : Int) :
    updateV Try.prog g 62 (.map nf ns) (.str s) (.int .i64 n) = some (.val .bad (some (nf, ns, .map (encN (l ++ [(s, n)])) (bs ++ [clk]) (clk + 1)))) := by
  rw [update_new Try.underlying62 Try.underlying9 h rfl (findKey_new hs)]
  simp only [encN, List.map_append, List.map_cons, List.map_nil]

theorem link1_cr (K : Heap) (q : Nat) (a : Loc) (L : MLine) (l : List Ob) (bs : List Nat) (clk : Nat) (hL : LineAt K a L l bs clk) (c : MCall) (dv : V) (m : Int) (h0 : 0 ≤ m) (h1 : m < 16) (o : Ob) (ho : l[m.toNat]? = some o)
    (hf : a.f < q) (hnf : a.nf < q) (g6 : hget K q 6 = some (.cells [.int .i64 m])) (g2 : hget K q 2 = some (.cells [.ptr a.f a.s 0])) (g3 : hget K q 3 = some (.cells (callC c dv))) (hs : numOf L.names c.as_ = none) :
    CR Try.prog pol 49 [.ptr q 6 0, .ptr q 2 0, .ptr q 3 0] K fun _ K' => Ch K K' [(a.f, a.s, .cells (lineC a L.snap L.owner L.prev (l.set m.toNat { o with links := w64 (o.links + 1) }))), (a.nf, a.ns, .map (encN (L.names ++ [(c.as_, m)])) (bs ++ [clk]) (clk + 1))] := by
  refine cr_of Try.func49 rfl ?_
  intro n J hn F
  have A := F.at_ hn hL.cells
  have B := F.at_ hn hL.names
  have G6 := F.at_ hn g6
  have G2 := F.at_ hn g2
  have G3 := F.at_ hn g3
  have ne1 := hL.ne1
  have ne3 : ¬ q = a.nf := by omega
  simp only [walk, walkL, evOp, quietOp, farOp, nov, gd, rho, putT, wr, Nat.reduceAdd, Nat.reduceSub, Bool.false_eq_true, if_true, if_false, reduceIte, reduceCtorEq, walkM, Int.reduceBEq, Int.reduceBNe, Int.reduceLT, Int.reduceLE, decide_true, decide_false, eq_self, Bool.not_true, Bool.not_false, ↓ev_fa, ↓ev_field, ↓ev_load, ↓ev_store, stO_cells, List.all_cons, List.all_nil, Bool.and_self, Bool.and_true, Try.ntmps49, ta49, new, hget_hset', hset_length, and_false, false_and, and_true, true_and, and_self, Nat.reduceEqDiff, Nat.reduceLT, Nat.lt_irrefl, Nat.not_lt_zero, zerosN, fillV, walkB, pureL, V.pure, Nat.reduceMul, Nat.reduceLeDiff, Nat.one_ne_zero, List.take_zero, List.drop_succ_cons, List.drop_zero, List.take_succ_cons, List.replicate_one, List.drop_nil, List.take_nil, Nat.le_refl, Nat.zero_add, Nat.zero_mul, Nat.one_mul, Nat.mul_one, A.get, A.ltK, B.get, B.ltK, lc_0, lc_1, lc_2, lc_3, lc_4, Nat.add_zero, callC, G6.get, G2.get, G3.get, lc_links ho, ia_ob h0 h1, ne1, ne3, ↓up_names B.get hs, st_links ho]
  refine W.opsK (by kernel_rfl) ?_
  simp only [walk, walkL, evOp, quietOp, farOp, nov, gd, rho, putT, wr, Nat.reduceAdd, Nat.reduceSub, Bool.false_eq_true, if_true, if_false, reduceIte, reduceCtorEq, walkM, Int.reduceBEq, Int.reduceBNe, Int.reduceLT, Int.reduceLE, decide_true, decide_false, eq_self, Bool.not_true, Bool.not_false, ↓ev_fa, ↓ev_field, ↓ev_load, ↓ev_store, stO_cells, List.all_cons, List.all_nil, Bool.and_self, Bool.and_true, ta49, new, hget_hset', hset_length, and_false, false_and, and_true, true_and, and_self, Nat.reduceEqDiff, Nat.reduceLT, Nat.lt_irrefl, Nat.not_lt_zero, zerosN, fillV, walkB, pureL, V.pure, Nat.reduceMul, Nat.reduceLeDiff, Nat.one_ne_zero, List.take_zero, List.drop_succ_cons, List.drop_zero, List.take_succ_cons, List.replicate_one, List.drop_nil, List.take_nil, Nat.le_refl, Nat.zero_add, Nat.zero_mul, Nat.one_mul, Nat.mul_one, A.get, A.ltK, B.get, B.ltK, lc_0, lc_1, lc_2, lc_3, lc_4, Nat.add_zero, callC, G6.get, G2.get, G3.get, lc_links ho, ia_ob h0 h1, ne1, ne3, st_links ho]
  refine W.opsK (by kernel_rfl) ?_
  simp only [walk, walkL, evOp, quietOp, farOp, nov, gd, rho, putT, wr, Nat.reduceAdd, Nat.reduceSub, Bool.false_eq_true, if_true, if_false, reduceIte, reduceCtorEq, walkM, Int.reduceBEq, Int.reduceBNe, Int.reduceLT, Int.reduceLE, decide_true, decide_false, eq_self, Bool.not_true, Bool.not_false, ↓ev_fa, ↓ev_field, ↓ev_load, ↓ev_store, stO_cells, List.all_cons, List.all_nil, Bool.and_self, Bool.and_true]
  exact W.done (EndK.normal rfl (F.ch hn (by first | rfl | simp only [hset_length]) (fun f' s' h => by simp only [hget_hset', hset_length, F.lt, A.ltK, B.ltK, w64, Nat.ne_of_lt h, false_and, if_false, AM.lk])))

theorem idx_num : ∀ {l : List (Bytes × Int)} {s : Bytes} {k : Nat} {n : Int}, numOf l s = some n → ∃ i, idxOf l s k = some (k + i) ∧ i < l.length ∧ l.eraseIdx i = eraseN l s
  | [], _, _, _, h => by cases h
  | p :: l, s, k, n, h => by
    simp only [numOf] at h
    by_cases e : s = p.1
    · subst e
      exact ⟨0, by simp [idxOf], by simp, by simp [eraseN]⟩
    · rw [if_neg e] at h
      obtain ⟨i, h1, h2, h3⟩ := idx_num (k := k + 1) h
      exact ⟨i + 1, by simp only [idxOf, e, if_false, h1]; congr 1; omega, by simp; omega, by simp [eraseN, e, h3]⟩
theorem erase_len {l : List (Bytes × Int)} {s : Bytes} {n : Int} (h : numOf l s = some n) : (eraseN l s).length + 1 = l.length := by
  obtain ⟨i, _, h2, h3⟩ := idx_num (k := 0) h
  rw [← h3, List.length_eraseIdx, if_pos h2]; omega
theorem erase_map {α β : Type} (f : α → β) : ∀ (l : List α) (i : Nat), (l.map f).eraseIdx i = (l.eraseIdx i).map f
  | [], _ => by simp
  | x :: l, 0 => rfl
  | x :: l, i + 1 => by simp [erase_map f l i]
theorem del_names {nf ns : Nat} {l : List (Bytes × Int)} {bs : List Nat} {clk : Nat} (b : Born l.length bs clk) {s : Bytes} {n : Int} (hs : numOf l s = some n) :
    ∃ bs', Born (eraseN l s).length bs' clk ∧ ∀ g : Get, g nf ns = some (.map (encN l) bs clk) → deleteV Try.prog g 62 (.map nf ns) (.str s) = some (.val (.tuple []) (some (nf, ns, .map (encN (eraseN l s)) bs' clk))) := by
  obtain ⟨i, h1, h2, h3⟩ := idx_num (k := 0) hs
  have hl := erase_len hs
  rw [Nat.zero_add] at h1
  refine ⟨bs.eraseIdx i, ?_, fun g h => ?_⟩
  · refine Born.erase (n := (eraseN l s).length) (by rw [hl]; exact b) (by omega)
  · simp only [deleteV, Try.underlying62, Try.underlying9, plainKey, if_true, h, findKey_names, h1, hs]
    rw [← h3]
    simp only [encN, erase_map]
theorem numOf_erase {l : List (Bytes × Int)} {s s' : Bytes} (h : numOf l s' = none) : numOf (eraseN l s) s' = none := by
  rw [numOf_none] at *
  induction l with
  | nil => simp [eraseN]
  | cons p l ih =>
    simp only [List.map_cons, List.mem_cons, not_or] at h
    simp only [eraseN]
    split
    · exact h.2
    · simp only [List.map_cons, List.mem_cons, not_or]
      exact ⟨h.1, ih h.2⟩

theorem bi_delete {P : Program} {mt : Nat → Bool} {fr : Nat} {g : Get} {d : Option Nat} {t : TypeId} {ts : List TypeId} {m k : V} : builtinV P mt fr g d .delete (t :: ts).toArray [m, k] = deleteV P g t m k := rfl

def lessV (o : Ob) : Ob := if w64 (o.links - 1) = 0 then ⟨0, 0, .nilslice⟩ else { o with links := w64 (o.links - 1) }

theorem unlink1_cr (K : Heap) (q : Nat) (a : Loc) (L : MLine) (l : List Ob) (bs : List Nat) (clk : Nat) (hL : LineAt K a L l bs clk) (c : MCall) (dv : V) (m : Int) (h0 : 0 ≤ m) (h1 : m < 16) (o : Ob) (ho : l[m.toNat]? = some o)
    (hf : a.f < q) (hnf : a.nf < q) (g5 : hget K q 5 = some (.cells [.int .i64 m])) (g2 : hget K q 2 = some (.cells [.ptr a.f a.s 0])) (g3 : hget K q 3 = some (.cells (callC c dv)))
    (bs' : List Nat) (hs : ∀ g : Get, g a.nf a.ns = some (.map (encN L.names) bs clk) → deleteV Try.prog g 62 (.map a.nf a.ns) (.str c.name) = some (.val (.tuple []) (some (a.nf, a.ns, .map (encN (eraseN L.names c.name)) bs' clk)))) :
    CR Try.prog pol 50 [.ptr q 2 0, .ptr q 3 0, .ptr q 5 0] K fun _ K' => Ch K K' [(a.f, a.s, .cells (lineC a L.snap L.owner L.prev (l.set m.toNat (lessV o)))), (a.nf, a.ns, .map (encN (eraseN L.names c.name)) bs' clk)] := by
  refine cr_of Try.func50 rfl ?_
  intro n J hn F
  have A := F.at_ hn hL.cells
  have B := F.at_ hn hL.names
  have G5 := F.at_ hn g5
  have G2 := F.at_ hn g2
  have G3 := F.at_ hn g3
  have ne1 := hL.ne1
  have ne3 : ¬ q = a.nf := by omega
  have ne4 : ¬ q = a.f := by omega
  have ho2 : (l.set m.toNat { o with links := (IntKind.i64).wrap (o.links - 1) })[m.toNat]? = some { o with links := (IntKind.i64).wrap (o.links - 1) } := by rw [List.getElem?_set, if_pos rfl, if_pos (lt_of_get ho)]
  simp only [walk, walkL, evOp, quietOp, farOp, nov, gd, rho, putT, wr, Nat.reduceAdd, Nat.reduceSub, Bool.false_eq_true, if_true, if_false, reduceIte, reduceCtorEq, walkM, Int.reduceBEq, Int.reduceBNe, Int.reduceLT, Int.reduceLE, decide_true, decide_false, eq_self, Bool.not_true, Bool.not_false, ↓ev_fa, ↓ev_field, ↓ev_load, ↓ev_store, stO_cells, List.all_cons, List.all_nil, Bool.and_self, Bool.and_true, Try.ntmps50, ta50, new, hget_hset', hset_length, and_false, false_and, and_true, true_and, and_self, Nat.reduceEqDiff, Nat.reduceLT, Nat.lt_irrefl, Nat.not_lt_zero, zerosN, fillV, walkB, pureL, V.pure, Nat.reduceMul, Nat.reduceLeDiff, Nat.one_ne_zero, List.take_zero, List.drop_succ_cons, List.drop_zero, List.take_succ_cons, List.replicate_one, List.drop_nil, List.take_nil, Nat.le_refl, Nat.zero_add, Nat.zero_mul, Nat.one_mul, Nat.mul_one, A.get, A.ltK, B.get, B.ltK, lc_0, lc_1, lc_2, lc_3, lc_4, Nat.add_zero, callC, G5.get, G2.get, G3.get, bi_delete, ↓hs _ B.get]
  refine W.opsK (by kernel_rfl) ?_
  simp only [walk, walkL, evOp, quietOp, farOp, nov, gd, rho, putT, wr, Nat.reduceAdd, Nat.reduceSub, Bool.false_eq_true, if_true, if_false, reduceIte, reduceCtorEq, walkM, Int.reduceBEq, Int.reduceBNe, Int.reduceLT, Int.reduceLE, decide_true, decide_false, eq_self, Bool.not_true, Bool.not_false, ↓ev_fa, ↓ev_field, ↓ev_load, ↓ev_store, stO_cells, List.all_cons, List.all_nil, Bool.and_self, Bool.and_true, ta50, new, hget_hset', hset_length, and_false, false_and, and_true, true_and, and_self, Nat.reduceEqDiff, Nat.reduceLT, Nat.lt_irrefl, Nat.not_lt_zero, zerosN, fillV, walkB, pureL, V.pure, Nat.reduceMul, Nat.reduceLeDiff, Nat.one_ne_zero, List.take_zero, List.drop_succ_cons, List.drop_zero, List.take_succ_cons, List.replicate_one, List.drop_nil, List.take_nil, Nat.le_refl, Nat.zero_add, Nat.zero_mul, Nat.one_mul, Nat.mul_one, A.get, A.ltK, B.get, B.ltK, lc_0, lc_1, lc_2, lc_3, lc_4, Nat.add_zero, callC, G5.get, G2.get, G3.get, lc_links ho, ia_ob h0 h1, ne1, ne3, ne4, st_links ho]
  refine W.opsK (by kernel_rfl) ?_
  simp only [walk, walkL, evOp, quietOp, farOp, nov, gd, rho, putT, wr, Nat.reduceAdd, Nat.reduceSub, Bool.false_eq_true, if_true, if_false, reduceIte, reduceCtorEq, walkM, Int.reduceBEq, Int.reduceBNe, Int.reduceLT, Int.reduceLE, decide_true, decide_false, eq_self, Bool.not_true, Bool.not_false, ↓ev_fa, ↓ev_field, ↓ev_load, ↓ev_store, stO_cells, List.all_cons, List.all_nil, Bool.and_self, Bool.and_true, ta50, new, hget_hset', hset_length, and_false, false_and, and_true, true_and, and_self, Nat.reduceEqDiff, Nat.reduceLT, Nat.lt_irrefl, Nat.not_lt_zero, zerosN, fillV, walkB, pureL, V.pure, Nat.reduceMul, Nat.reduceLeDiff, Nat.one_ne_zero, List.take_zero, List.drop_succ_cons, List.drop_zero, List.take_succ_cons, List.replicate_one, List.drop_nil, List.take_nil, Nat.le_refl, Nat.zero_add, Nat.zero_mul, Nat.one_mul, Nat.mul_one, A.get, A.ltK, B.get, B.ltK, lc_0, lc_1, lc_2, lc_3, lc_4, Nat.add_zero, callC, G5.get, G2.get, G3.get, lc_links ho2, ia_ob h0 h1, ne1, ne3, ne4]
  refine W.opsK (by kernel_rfl) ?_
  simp only [walk, walkL, evOp, quietOp, farOp, nov, gd, rho, putT, wr, Nat.reduceAdd, Nat.reduceSub, Bool.false_eq_true, if_true, if_false, reduceIte, reduceCtorEq, walkM, Int.reduceBEq, Int.reduceBNe, Int.reduceLT, Int.reduceLE, decide_true, decide_false, eq_self, Bool.not_true, Bool.not_false, ↓ev_fa, ↓ev_field, ↓ev_load, ↓ev_store, stO_cells, List.all_cons, List.all_nil, Bool.and_self, Bool.and_true]
  refine W.ite (fun hz => ?_) (fun hz => ?_)
  · have hz' : w64 (o.links - 1) = 0 := by simpa [w64] using hz
    have lv : lessV o = ⟨0, 0, .nilslice⟩ := by rw [lessV, if_pos hz']
    simp only [walk, walkL, evOp, quietOp, farOp, nov, gd, rho, putT, wr, Nat.reduceAdd, Nat.reduceSub, Bool.false_eq_true, if_true, if_false, reduceIte, reduceCtorEq, walkM, Int.reduceBEq, Int.reduceBNe, Int.reduceLT, Int.reduceLE, decide_true, decide_false, eq_self, Bool.not_true, Bool.not_false, ↓ev_fa, ↓ev_field, ↓ev_load, ↓ev_store, stO_cells, List.all_cons, List.all_nil, Bool.and_self, Bool.and_true, ta50, new, hget_hset', hset_length, and_false, false_and, and_true, true_and, and_self, Nat.reduceEqDiff, Nat.reduceLT, Nat.lt_irrefl, Nat.not_lt_zero, zerosN, fillV, walkB, pureL, V.pure, Nat.reduceMul, Nat.reduceLeDiff, Nat.one_ne_zero, List.take_zero, List.drop_succ_cons, List.drop_zero, List.take_succ_cons, List.replicate_one, List.drop_nil, List.take_nil, Nat.le_refl, Nat.zero_add, Nat.zero_mul, Nat.one_mul, Nat.mul_one, A.get, A.ltK, B.get, B.ltK, lc_0, lc_1, lc_2, lc_3, lc_4, Nat.add_zero, callC, G5.get, G2.get, G3.get, ia_ob h0 h1, ne1, ne3, ne4, st_ob ho2]
    refine W.opsK (by kernel_rfl) ?_
    simp only [walk, walkL, evOp, quietOp, farOp, nov, gd, rho, putT, wr, Nat.reduceAdd, Nat.reduceSub, Bool.false_eq_true, if_true, if_false, reduceIte, reduceCtorEq, walkM, Int.reduceBEq, Int.reduceBNe, Int.reduceLT, Int.reduceLE, decide_true, decide_false, eq_self, Bool.not_true, Bool.not_false, ↓ev_fa, ↓ev_field, ↓ev_load, ↓ev_store, stO_cells, List.all_cons, List.all_nil, Bool.and_self, Bool.and_true]
    rw [lv]
    exact W.done (EndK.normal rfl (F.ch hn (by simp only [hset_length]) (fun f' s' h => by
      simp only [hget_hset', hset_length, F.lt, A.ltK, B.ltK, w64, Nat.ne_of_lt h, false_and, if_false, lk, List.set_set]
      split <;> rfl)))
  · have hz' : ¬ w64 (o.links - 1) = 0 := by simpa [w64] using hz
    have lv : lessV o = { o with links := w64 (o.links - 1) } := by rw [lessV, if_neg hz']
    simp only [walk, walkL, evOp, quietOp, farOp, nov, gd, rho, putT, wr, Nat.reduceAdd, Nat.reduceSub, Bool.false_eq_true, if_true, if_false, reduceIte, reduceCtorEq, walkM, Int.reduceBEq, Int.reduceBNe, Int.reduceLT, Int.reduceLE, decide_true, decide_false, eq_self, Bool.not_true, Bool.not_false, ↓ev_fa, ↓ev_field, ↓ev_load, ↓ev_store, stO_cells, List.all_cons, List.all_nil, Bool.and_self, Bool.and_true]
    rw [lv]
    exact W.done (EndK.normal rfl (F.ch hn (by first | rfl | simp only [hset_length]) (fun f' s' h => by simp only [hget_hset', hset_length, F.lt, A.ltK, B.ltK, w64, Nat.ne_of_lt h, false_and, if_false, AM.lk])))

theorem rename1_cr (K : Heap) (q : Nat) (a : Loc) (L : MLine) (l : List Ob) (bs : List Nat) (clk : Nat) (hL : LineAt K a L l bs clk) (c : MCall) (dv : V) (m : Int)
    (hf : a.f < q) (hnf : a.nf < q) (g6 : hget K q 6 = some (.cells [.int .i64 m])) (g2 : hget K q 2 = some (.cells [.ptr a.f a.s 0])) (g3 : hget K q 3 = some (.cells (callC c dv)))
    (bs' : List Nat) (hs : ∀ g : Get, g a.nf a.ns = some (.map (encN L.names) bs clk) → deleteV Try.prog g 62 (.map a.nf a.ns) (.str c.name) = some (.val (.tuple []) (some (a.nf, a.ns, .map (encN (eraseN L.names c.name)) bs' clk))))
    (hn2 : numOf (eraseN L.names c.name) c.as_ = none) :
    CR Try.prog pol 51 [.ptr q 2 0, .ptr q 3 0, .ptr q 6 0] K fun _ K' => Ch K K' [(a.nf, a.ns, .map (encN (eraseN L.names c.name ++ [(c.as_, m)])) (bs' ++ [clk]) (clk + 1))] := by
  refine cr_of Try.func51 rfl ?_
  intro n J hn F
  have A := F.at_ hn hL.cells
  have B := F.at_ hn hL.names
  have G6 := F.at_ hn g6
  have G2 := F.at_ hn g2
  have G3 := F.at_ hn g3
  have ne1 := hL.ne1
  have ne3 : ¬ q = a.nf := by omega
  simp only [walk, walkL, evOp, quietOp, farOp, nov, gd, rho, putT, wr, Nat.reduceAdd, Nat.reduceSub, Bool.false_eq_true, if_true, if_false, reduceIte, reduceCtorEq, walkM, Int.reduceBEq, Int.reduceBNe, Int.reduceLT, Int.reduceLE, decide_true, decide_false, eq_self, Bool.not_true, Bool.not_false, ↓ev_fa, ↓ev_field, ↓ev_load, ↓ev_store, stO_cells, List.all_cons, List.all_nil, Bool.and_self, Bool.and_true, Try.ntmps51, ta51, new, hget_hset', hset_length, and_false, false_and, and_true, true_and, and_self, Nat.reduceEqDiff, Nat.reduceLT, Nat.lt_irrefl, Nat.not_lt_zero, zerosN, fillV, walkB, pureL, V.pure, Nat.reduceMul, Nat.reduceLeDiff, Nat.one_ne_zero, List.take_zero, List.drop_succ_cons, List.drop_zero, List.take_succ_cons, List.replicate_one, List.drop_nil, List.take_nil, Nat.le_refl, Nat.zero_add, Nat.zero_mul, Nat.one_mul, Nat.mul_one, A.get, A.ltK, B.get, B.ltK, lc_0, lc_1, lc_2, lc_3, lc_4, Nat.add_zero, callC, G6.get, G2.get, G3.get, bi_delete, ↓hs _ B.get]
  refine W.opsK (by kernel_rfl) ?_
  simp only [walk, walkL, evOp, quietOp, farOp, nov, gd, rho, putT, wr, Nat.reduceAdd, Nat.reduceSub, Bool.false_eq_true, if_true, if_false, reduceIte, reduceCtorEq, walkM, Int.reduceBEq, Int.reduceBNe, Int.reduceLT, Int.reduceLE, decide_true, decide_false, eq_self, Bool.not_true, Bool.not_false, ↓ev_fa, ↓ev_field, ↓ev_load, ↓ev_store, stO_cells, List.all_cons, List.all_nil, Bool.and_self, Bool.and_true, ta51, new, hget_hset', hset_length, and_false, false_and, and_true, true_and, and_self, Nat.reduceEqDiff, Nat.reduceLT, Nat.lt_irrefl, Nat.not_lt_zero, zerosN, fillV, walkB, pureL, V.pure, Nat.reduceMul, Nat.reduceLeDiff, Nat.one_ne_zero, List.take_zero, List.drop_succ_cons, List.drop_zero, List.take_succ_cons, List.replicate_one, List.drop_nil, List.take_nil, Nat.le_refl, Nat.zero_add, Nat.zero_mul, Nat.one_mul, Nat.mul_one, A.get, A.ltK, B.get, B.ltK, lc_0, lc_1, lc_2, lc_3, lc_4, Nat.add_zero, callC, G6.get, G2.get, G3.get, ne1, ne3, ↓up_names (hget_same B.ltK) hn2]
  refine W.opsK (by kernel_rfl) ?_
  simp only [walk, walkL, evOp, quietOp, farOp, nov, gd, rho, putT, wr, Nat.reduceAdd, Nat.reduceSub, Bool.false_eq_true, if_true, if_false, reduceIte, reduceCtorEq, walkM, Int.reduceBEq, Int.reduceBNe, Int.reduceLT, Int.reduceLE, decide_true, decide_false, eq_self, Bool.not_true, Bool.not_false, ↓ev_fa, ↓ev_field, ↓ev_load, ↓ev_store, stO_cells, List.all_cons, List.all_nil, Bool.and_self, Bool.and_true]
  exact W.done (EndK.normal rfl (F.ch hn (by simp only [hset_length]) (fun f' s' h => by
      simp only [hget_hset', hset_length, F.lt, A.ltK, B.ltK, Nat.ne_of_lt h, false_and, if_false, lk]
      split <;> rfl)))
end Go.Proofs.Ytebbgmeomkjibaa
end
