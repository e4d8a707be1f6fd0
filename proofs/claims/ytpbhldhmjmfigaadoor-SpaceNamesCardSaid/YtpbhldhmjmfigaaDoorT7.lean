/- space: the closure of space.free, Free, Take, Give, on any heap. -/
import Derived.Test.YtpbhldhmjmfigaaDoorT6
set_option linter.unusedSimpArgs false
set_option linter.unusedVariables false
set_option maxRecDepth 100000
namespace Go.Proofs.YtpbhldhmjmfigaaDoor
open Go.AM
attribute [local irreducible] U W

/-- The first unused block from one on. -/
def scan : List UInt8 → Nat → Option Nat
  | [], _ => none
  | b :: r, a => if b = 0 then some a else scan r (a + 1)

theorem next_cw (v : V) (l : List UInt8) (hv : IsBytes v l) (hl : l.length ≤ 10000) (K : Heap) (F : Nat) (hF : F < K.length) (hw : WF K) (a : Int) (n : Nat) (ha : a + 1 = n) (hn : n ≤ l.length)
    (k3 : hget K F 3 = some (.cells [.int .i64 a])) (k1 : hget K F 1 = some (.cells [v])) :
    CW Tryd.prog pol 34 [.ptr F 3 0, .ptr F 1 0] K fun r K' => match scan (l.drop n) n with
      | some p => r = .ret (.int .i64 p) ∧ K' = hset K F 3 (.cells [.int .i64 p])
      | none => r = .ret (.int .i64 (-1)) ∧ K' = hset K F 3 (.cells [.int .i64 l.length]) := by
  refine cw_of Tryd.func34 rfl ?_
  have g3 : hget (K ++ [[]]) F 3 = some (.cells [.int .i64 a]) := by rw [hget_old _ _ hF, k3]
  have s3 : ∀ o, hset (K ++ [[]]) F 3 o = hset K F 3 o ++ [[]] := fun o => hset_old _ _ hF 3 o
  have w0 : (IntKind.i64).wrap (a + 1) = (n : Int) := by rw [ha, wrap_i64] <;> omega
  have g3' : ∀ i : Int, hget (hset K F 3 (.cells [.int .i64 i]) ++ [[]]) F 3 = some (.cells [.int .i64 i]) := fun i => by
    rw [hget_old _ _ (by rw [hset_length]; exact hF), hget_hset_self hF]
  have g1' : ∀ i : Int, hget (hset K F 3 (.cells [.int .i64 i]) ++ [[]]) F 1 = some (.cells [v]) := fun i => by
    rw [hget_old _ _ (by rw [hset_length]; exact hF), hget_hset_else hF (by simp), k1]
  have s3' : ∀ (i : Int) o, hset (hset K F 3 (.cells [.int .i64 i]) ++ [[]]) F 3 o = hset K F 3 o ++ [[]] := fun i o => by
    rw [hset_old _ _ (by rw [hset_length]; exact hF), hset_hset]
  have wf' : ∀ i : Int, WF (hset K F 3 (.cells [.int .i64 i])) := fun i => hw.hset rfl
  have pop : ∀ (i x : Int), popF K.length (.int .i64 x) (hset K F 3 (.cells [.int .i64 i]) ++ [[]]) = hset K F 3 (.cells [.int .i64 i]) := fun i x => by
    have := popF_drop (H := hset K F 3 (.cells [.int .i64 i])) (G := [[]]) (v := .int .i64 x) rfl (wf' i)
    rwa [hset_length] at this
  have len := hv.len Tryd.underlying26
  simp only [u_seq, u_region, u_block, w_op, evOp, us_val, us_call, us_panic, uc_ret, uc_pan, w_cond, ui_true, ui_false, w_opT, ust_val, ust_set, ust_call, uct_ret, w_guardT, ugt_tt, ugt_ff, ugt_tf, ugt_ft, u_draw, quietOp, w_guard, ug_tt, ug_ff, ug_tf, ug_ft, ug_no, ugt_no, nov, gd, w_loop, ul_some, u_ops_nil, u_skip, u_ret, u_exit, u_nil, u_code_ret, u_code_exit, u_code_panic, u_block_normal, u_block_ret, u_block_panic, u_block_exit, rho, putT, wr, b_add, b_sub, b_mul, b_eql, b_neq, b_lss, b_leq, b_gtr, b_geq, b_sadd, b_seql, b_sneq, oc_int, oc_bool, oc_str, oc_nilslice, oc_nilptr, oc_nilmap, oc_nilfunc, oc_nilface, bi_len, bi_max, bi_min, mx_nil, mx_one, frz_islice, frz_nilslice, frz_int, frz_bool, frz_str, List.getD_cons_zero, List.getD_cons_succ, List.set_cons_zero, List.set_cons_succ, List.map_cons, List.map_nil, Option.map_some, Option.map_none, Option.bind_some, Option.bind_none, List.length_nil, List.length_cons, List.nil_append, List.cons_append, List.append_nil, List.replicate_succ, List.replicate_zero, Nat.reduceAdd, Nat.reduceSub, Bool.false_eq_true, if_true, if_false, reduceIte, reduceCtorEq, List.getElem?_cons_zero, List.getElem?_cons_succ, List.getElem?_toArray, Tryd.ntmps34, g3, rd3, sz3, w0, s3, splice, zerosN, fillV, cells_int, cells_bool, cells_str, cells_nilptr, cells_ptr, cells_iptr, cells_nilslice, cells_islice, cells_gslice, cells_mslice, cells_nilmap, cells_map, cells_func, cells_nilfunc, cells_nilface, cells_face, pureL, V.pure, Nat.reduceMul, Nat.reduceLeDiff, Nat.one_ne_zero, and_self, and_true, true_and, List.take_zero, List.drop_succ_cons, List.drop_zero, List.take_succ_cons, List.replicate_one, Bool.and_self, Bool.and_true, List.drop_nil, List.take_nil, Nat.le_refl, Nat.zero_add, Nat.zero_mul, Nat.one_mul, Nat.mul_one]
  refine W.ul ?_
  refine W.loopS (kt := [0, 1]) rfl (fun i : Nat => st34_2 (.ptr F 3 0) (.ptr F 1 0)) (fun i => hset K F 3 (.cells [.int .i64 i]) ++ [[]]) (fun i => i ≤ l.length ∧ scan (l.drop i) i = scan (l.drop n) n) (fun i => l.length - i) ?_ n ⟨hn, rfl⟩ rfl rfl
  rintro i ⟨hi, hs⟩
  simp only [st34_2]
  by_cases h : i < l.length
  · have c1 : decide ((i : Int) < l.length) = true := decide_eq_true (by omega)
    have at1 := hv.at (k := .i64) Tryd.underlying26 sz5 (by decide) (i := (i : Int)) (by omega) (by omega)
    have w1 := wrap_add1 (i := i) (by omega)
    have hd := List.drop_eq_getElem_cons h
    rw [hd, scan] at hs
    simp only [u_seq, u_region, u_block, w_op, evOp, us_val, us_call, us_panic, uc_ret, uc_pan, w_cond, ui_true, ui_false, w_opT, ust_val, ust_set, ust_call, uct_ret, w_guardT, ugt_tt, ugt_ff, ugt_tf, ugt_ft, u_draw, quietOp, w_guard, ug_tt, ug_ff, ug_tf, ug_ft, ug_no, ugt_no, nov, gd, w_loop, ul_some, u_ops_nil, u_skip, u_ret, u_exit, u_nil, u_code_ret, u_code_exit, u_code_panic, u_block_normal, u_block_ret, u_block_panic, u_block_exit, rho, putT, wr, b_add, b_sub, b_mul, b_eql, b_neq, b_lss, b_leq, b_gtr, b_geq, b_sadd, b_seql, b_sneq, oc_int, oc_bool, oc_str, oc_nilslice, oc_nilptr, oc_nilmap, oc_nilfunc, oc_nilface, bi_len, bi_max, bi_min, mx_nil, mx_one, frz_islice, frz_nilslice, frz_int, frz_bool, frz_str, List.getD_cons_zero, List.getD_cons_succ, List.set_cons_zero, List.set_cons_succ, List.map_cons, List.map_nil, Option.map_some, Option.map_none, Option.bind_some, Option.bind_none, List.length_nil, List.length_cons, List.nil_append, List.cons_append, List.append_nil, List.replicate_succ, List.replicate_zero, Nat.reduceAdd, Nat.reduceSub, Bool.false_eq_true, if_true, if_false, reduceIte, reduceCtorEq, List.getElem?_cons_zero, List.getElem?_cons_succ, List.getElem?_toArray, g3', g1', rd3, rd26, len, c1, at1, rd5, gb h]
    refine W.ite (fun q1 => ?_) (fun q1 => ?_)
    · have q2 : l[i] = 0 := (u8_eq _ 0).1 (by simpa using q1)
      rw [if_pos q2] at hs
      simp only [u_seq, u_region, u_block, w_op, evOp, us_val, us_call, us_panic, uc_ret, uc_pan, w_cond, ui_true, ui_false, w_opT, ust_val, ust_set, ust_call, uct_ret, w_guardT, ugt_tt, ugt_ff, ugt_tf, ugt_ft, u_draw, quietOp, w_guard, ug_tt, ug_ff, ug_tf, ug_ft, ug_no, ugt_no, nov, gd, w_loop, ul_some, u_ops_nil, u_skip, u_ret, u_exit, u_nil, u_code_ret, u_code_exit, u_code_panic, u_block_normal, u_block_ret, u_block_panic, u_block_exit, rho, putT, wr, b_add, b_sub, b_mul, b_eql, b_neq, b_lss, b_leq, b_gtr, b_geq, b_sadd, b_seql, b_sneq, oc_int, oc_bool, oc_str, oc_nilslice, oc_nilptr, oc_nilmap, oc_nilfunc, oc_nilface, bi_len, bi_max, bi_min, mx_nil, mx_one, frz_islice, frz_nilslice, frz_int, frz_bool, frz_str, List.getD_cons_zero, List.getD_cons_succ, List.set_cons_zero, List.set_cons_succ, List.map_cons, List.map_nil, Option.map_some, Option.map_none, Option.bind_some, Option.bind_none, List.length_nil, List.length_cons, List.nil_append, List.cons_append, List.append_nil, List.replicate_succ, List.replicate_zero, Nat.reduceAdd, Nat.reduceSub, Bool.false_eq_true, if_true, if_false, reduceIte, reduceCtorEq, List.getElem?_cons_zero, List.getElem?_cons_succ, List.getElem?_toArray, g3', rd3]
      refine W.done ?_
      simp only [u_seq, u_region, u_block, w_op, evOp, us_val, us_call, us_panic, uc_ret, uc_pan, w_cond, ui_true, ui_false, w_opT, ust_val, ust_set, ust_call, uct_ret, w_guardT, ugt_tt, ugt_ff, ugt_tf, ugt_ft, u_draw, quietOp, w_guard, ug_tt, ug_ff, ug_tf, ug_ft, ug_no, ugt_no, nov, gd, w_loop, ul_some, u_ops_nil, u_skip, u_ret, u_exit, u_nil, u_code_ret, u_code_exit, u_code_panic, u_block_normal, u_block_ret, u_block_panic, u_block_exit, rho, putT, wr, b_add, b_sub, b_mul, b_eql, b_neq, b_lss, b_leq, b_gtr, b_geq, b_sadd, b_seql, b_sneq, oc_int, oc_bool, oc_str, oc_nilslice, oc_nilptr, oc_nilmap, oc_nilfunc, oc_nilface, bi_len, bi_max, bi_min, mx_nil, mx_one, frz_islice, frz_nilslice, frz_int, frz_bool, frz_str, List.getD_cons_zero, List.getD_cons_succ, List.set_cons_zero, List.set_cons_succ, List.map_cons, List.map_nil, Option.map_some, Option.map_none, Option.bind_some, Option.bind_none, List.length_nil, List.length_cons, List.nil_append, List.cons_append, List.append_nil, List.replicate_succ, List.replicate_zero, Nat.reduceAdd, Nat.reduceSub, Bool.false_eq_true, if_true, if_false, reduceIte, reduceCtorEq, List.getElem?_cons_zero, List.getElem?_cons_succ, List.getElem?_toArray]
      refine W.done (End.ret rfl ?_)
      rw [← hs]
      exact ⟨rfl, pop i i⟩
    · have q2 : l[i] ≠ 0 := fun e => by rw [e] at q1; cases q1
      rw [if_neg q2] at hs
      simp only [u_seq, u_region, u_block, w_op, evOp, us_val, us_call, us_panic, uc_ret, uc_pan, w_cond, ui_true, ui_false, w_opT, ust_val, ust_set, ust_call, uct_ret, w_guardT, ugt_tt, ugt_ff, ugt_tf, ugt_ft, u_draw, quietOp, w_guard, ug_tt, ug_ff, ug_tf, ug_ft, ug_no, ugt_no, nov, gd, w_loop, ul_some, u_ops_nil, u_skip, u_ret, u_exit, u_nil, u_code_ret, u_code_exit, u_code_panic, u_block_normal, u_block_ret, u_block_panic, u_block_exit, rho, putT, wr, b_add, b_sub, b_mul, b_eql, b_neq, b_lss, b_leq, b_gtr, b_geq, b_sadd, b_seql, b_sneq, oc_int, oc_bool, oc_str, oc_nilslice, oc_nilptr, oc_nilmap, oc_nilfunc, oc_nilface, bi_len, bi_max, bi_min, mx_nil, mx_one, frz_islice, frz_nilslice, frz_int, frz_bool, frz_str, List.getD_cons_zero, List.getD_cons_succ, List.set_cons_zero, List.set_cons_succ, List.map_cons, List.map_nil, Option.map_some, Option.map_none, Option.bind_some, Option.bind_none, List.length_nil, List.length_cons, List.nil_append, List.cons_append, List.append_nil, List.replicate_succ, List.replicate_zero, Nat.reduceAdd, Nat.reduceSub, Bool.false_eq_true, if_true, if_false, reduceIte, reduceCtorEq, List.getElem?_cons_zero, List.getElem?_cons_succ, List.getElem?_toArray, g3', s3', rd3, sz3, w1, splice, zerosN, fillV, cells_int, cells_bool, cells_str, cells_nilptr, cells_ptr, cells_iptr, cells_nilslice, cells_islice, cells_gslice, cells_mslice, cells_nilmap, cells_map, cells_func, cells_nilfunc, cells_nilface, cells_face, pureL, V.pure, Nat.reduceMul, Nat.reduceLeDiff, Nat.one_ne_zero, and_self, and_true, true_and, List.take_zero, List.drop_succ_cons, List.drop_zero, List.take_succ_cons, List.replicate_one, Bool.and_self, Bool.and_true, List.drop_nil, List.take_nil, Nat.le_refl, Nat.zero_add, Nat.zero_mul, Nat.one_mul, Nat.mul_one]
      exact W.done ⟨i + 1, rfl, rfl, ⟨by omega, hs⟩, by omega⟩
  · have c1 : decide ((i : Int) < l.length) = false := decide_eq_false (by omega)
    obtain rfl : i = l.length := by omega
    rw [List.drop_length, scan] at hs
    simp only [u_seq, u_region, u_block, w_op, evOp, us_val, us_call, us_panic, uc_ret, uc_pan, w_cond, ui_true, ui_false, w_opT, ust_val, ust_set, ust_call, uct_ret, w_guardT, ugt_tt, ugt_ff, ugt_tf, ugt_ft, u_draw, quietOp, w_guard, ug_tt, ug_ff, ug_tf, ug_ft, ug_no, ugt_no, nov, gd, w_loop, ul_some, u_ops_nil, u_skip, u_ret, u_exit, u_nil, u_code_ret, u_code_exit, u_code_panic, u_block_normal, u_block_ret, u_block_panic, u_block_exit, rho, putT, wr, b_add, b_sub, b_mul, b_eql, b_neq, b_lss, b_leq, b_gtr, b_geq, b_sadd, b_seql, b_sneq, oc_int, oc_bool, oc_str, oc_nilslice, oc_nilptr, oc_nilmap, oc_nilfunc, oc_nilface, bi_len, bi_max, bi_min, mx_nil, mx_one, frz_islice, frz_nilslice, frz_int, frz_bool, frz_str, List.getD_cons_zero, List.getD_cons_succ, List.set_cons_zero, List.set_cons_succ, List.map_cons, List.map_nil, Option.map_some, Option.map_none, Option.bind_some, Option.bind_none, List.length_nil, List.length_cons, List.nil_append, List.cons_append, List.append_nil, List.replicate_succ, List.replicate_zero, Nat.reduceAdd, Nat.reduceSub, Bool.false_eq_true, if_true, if_false, reduceIte, reduceCtorEq, List.getElem?_cons_zero, List.getElem?_cons_succ, List.getElem?_toArray, g3', g1', rd3, rd26, len, c1]
    refine W.done ?_
    simp only [u_seq, u_region, u_block, w_op, evOp, us_val, us_call, us_panic, uc_ret, uc_pan, w_cond, ui_true, ui_false, w_opT, ust_val, ust_set, ust_call, uct_ret, w_guardT, ugt_tt, ugt_ff, ugt_tf, ugt_ft, u_draw, quietOp, w_guard, ug_tt, ug_ff, ug_tf, ug_ft, ug_no, ugt_no, nov, gd, w_loop, ul_some, u_ops_nil, u_skip, u_ret, u_exit, u_nil, u_code_ret, u_code_exit, u_code_panic, u_block_normal, u_block_ret, u_block_panic, u_block_exit, rho, putT, wr, b_add, b_sub, b_mul, b_eql, b_neq, b_lss, b_leq, b_gtr, b_geq, b_sadd, b_seql, b_sneq, oc_int, oc_bool, oc_str, oc_nilslice, oc_nilptr, oc_nilmap, oc_nilfunc, oc_nilface, bi_len, bi_max, bi_min, mx_nil, mx_one, frz_islice, frz_nilslice, frz_int, frz_bool, frz_str, List.getD_cons_zero, List.getD_cons_succ, List.set_cons_zero, List.set_cons_succ, List.map_cons, List.map_nil, Option.map_some, Option.map_none, Option.bind_some, Option.bind_none, List.length_nil, List.length_cons, List.nil_append, List.cons_append, List.append_nil, List.replicate_succ, List.replicate_zero, Nat.reduceAdd, Nat.reduceSub, Bool.false_eq_true, if_true, if_false, reduceIte, reduceCtorEq, List.getElem?_cons_zero, List.getElem?_cons_succ, List.getElem?_toArray]
    refine W.done (End.ret rfl ?_)
    rw [← hs]
    exact ⟨rfl, pop _ _⟩

theorem scan_lt : ∀ (l : List UInt8) (a p : Nat), scan l a = some p → a ≤ p ∧ p < a + l.length ∧ l[p - a]? = some 0
  | [], a, p, h => by cases h
  | b :: r, a, p, h => by
    simp only [scan] at h
    split at h
    · rename_i hb
      cases h
      simp [hb]
    · have := scan_lt r (a + 1) p h
      obtain ⟨h1, h2, h3⟩ := this
      refine ⟨by omega, by simp; omega, ?_⟩
      rw [show p - a = (p - (a + 1)) + 1 by omega]
      simpa using h3
theorem freesFrom_scan : ∀ (l : List UInt8) (a : Nat), freesFrom l a = match scan l a with
    | none => []
    | some p => (p : Int) :: freesFrom (l.drop (p + 1 - a)) (p + 1)
  | [], a => rfl
  | b :: r, a => by
    simp only [scan, freesFrom]
    split
    · simp only
      rw [show a + 1 - a = 1 by omega]
      rfl
    · rw [freesFrom_scan r (a + 1)]
      cases hs : scan r (a + 1) with
      | none => rfl
      | some p =>
        have := (scan_lt r (a + 1) p hs).1
        simp only
        rw [show p + 1 - a = (p + 1 - (a + 1)) + 1 by omega]
        rfl

/-- New memory of one's own, behind a heap; or none. -/
def Own (H H' : Heap) (w : V) (out : List UInt8) : Prop := ∃ G, H' = H ++ G ∧ WF H' ∧ ((w = .nilslice ∧ out = []) ∨ ∃ f s c, w = .mslice f s 0 out.length c 1 ∧ H.length ≤ f ∧ f < H'.length ∧ hget H' f s = some (.cells (ofBytes out)))

theorem Own.frz {H H' : Heap} {w : V} {out : List UInt8} (h : Own H H' w out) (n : Nat) : ∃ w', AM.frz (hget H') (n + 2) w = some w' ∧ IsBytes w' out := by
  obtain ⟨G, rfl, _, ⟨rfl, rfl⟩ | ⟨f, s, c, rfl, _, _, hg⟩⟩ := h
  · exact ⟨_, rfl, IsBytes.nil⟩
  · exact ⟨_, frz_bytes0 hg, IsBytes.mk _ _⟩

theorem take_cw (v : V) (l : List UInt8) (hv : IsBytes v l) (H : Heap) (hH : WF H) :
    CW Tryd.prog pol 11 [v] H fun r H' => ∃ w, r = .ret (.tuple [w, .int .i64 (takeR l).2.1, .int .i64 (takeR l).2.2]) ∧ Own H H' w (takeR l).1 := by
  refine cw_of Tryd.func11 rfl ?_
  obtain ⟨m, rfl, hm⟩ := (check_fz v l hv).op (by rfl) (frzL_cons (hv.frz _) rfl)
  have hm' : ∀ d, _ := fun d => hm 11 H.length d (H ++ [[]]) rfl
  simp only [u_seq, u_region, u_block, w_op, evOp, us_val, us_call, us_panic, uc_ret, uc_pan, w_cond, ui_true, ui_false, w_opT, ust_val, ust_set, ust_call, uct_ret, w_guardT, ugt_tt, ugt_ff, ugt_tf, ugt_ft, u_draw, quietOp, w_guard, ug_tt, ug_ff, ug_tf, ug_ft, ug_no, ugt_no, nov, gd, w_loop, ul_some, u_ops_nil, u_skip, u_ret, u_exit, u_nil, u_code_ret, u_code_exit, u_code_panic, u_block_normal, u_block_ret, u_block_panic, u_block_exit, rho, putT, wr, b_add, b_sub, b_mul, b_eql, b_neq, b_lss, b_leq, b_gtr, b_geq, b_sadd, b_seql, b_sneq, oc_int, oc_bool, oc_str, oc_nilslice, oc_nilptr, oc_nilmap, oc_nilfunc, oc_nilface, bi_len, bi_max, bi_min, mx_nil, mx_one, frz_islice, frz_nilslice, frz_int, frz_bool, frz_str, List.getD_cons_zero, List.getD_cons_succ, List.set_cons_zero, List.set_cons_succ, List.map_cons, List.map_nil, Option.map_some, Option.map_none, Option.bind_some, Option.bind_none, List.length_nil, List.length_cons, List.nil_append, List.cons_append, List.append_nil, List.replicate_succ, List.replicate_zero, Nat.reduceAdd, Nat.reduceSub, Bool.false_eq_true, if_true, if_false, reduceIte, reduceCtorEq, List.getElem?_cons_zero, List.getElem?_cons_succ, List.getElem?_toArray, Tryd.ntmps11, hm']
  have pop0 : ∀ x y : Int, popF H.length (.tuple [.nilslice, .int .i64 x, .int .i64 y]) (H ++ [[]]) = H := fun x y => popF_drop rfl hH
  cases hk : okTab l
  · have c1 : ((8 : Int) != 0) = true := rfl
    have e : takeR l = ([], 0, 8) := by simp only [takeR, hk]; rfl
    simp only [u_seq, u_region, u_block, w_op, evOp, us_val, us_call, us_panic, uc_ret, uc_pan, w_cond, ui_true, ui_false, w_opT, ust_val, ust_set, ust_call, uct_ret, w_guardT, ugt_tt, ugt_ff, ugt_tf, ugt_ft, u_draw, quietOp, w_guard, ug_tt, ug_ff, ug_tf, ug_ft, ug_no, ugt_no, nov, gd, w_loop, ul_some, u_ops_nil, u_skip, u_ret, u_exit, u_nil, u_code_ret, u_code_exit, u_code_panic, u_block_normal, u_block_ret, u_block_panic, u_block_exit, rho, putT, wr, b_add, b_sub, b_mul, b_eql, b_neq, b_lss, b_leq, b_gtr, b_geq, b_sadd, b_seql, b_sneq, oc_int, oc_bool, oc_str, oc_nilslice, oc_nilptr, oc_nilmap, oc_nilfunc, oc_nilface, bi_len, bi_max, bi_min, mx_nil, mx_one, frz_islice, frz_nilslice, frz_int, frz_bool, frz_str, List.getD_cons_zero, List.getD_cons_succ, List.set_cons_zero, List.set_cons_succ, List.map_cons, List.map_nil, Option.map_some, Option.map_none, Option.bind_some, Option.bind_none, List.length_nil, List.length_cons, List.nil_append, List.cons_append, List.append_nil, List.replicate_succ, List.replicate_zero, Nat.reduceAdd, Nat.reduceSub, Bool.false_eq_true, if_true, if_false, reduceIte, reduceCtorEq, List.getElem?_cons_zero, List.getElem?_cons_succ, List.getElem?_toArray, c1]
    refine W.done (End.ret (v := .tuple [.nilslice, .int .i64 0, .int .i64 8]) rfl ⟨_, by rw [e], ?_⟩)
    rw [e, pop0]
    exact ⟨[], by rw [List.append_nil], hH, .inl ⟨rfl, rfl⟩⟩
  have c1 : ((0 : Int) != 0) = false := rfl
  have hl := okTab_len hk
  obtain ⟨r1, H1, f1, rfl, rfl⟩ := free_cw v l hv (H ++ [[]])
  rw [List.append_assoc, List.length_append, List.length_singleton] at f1
  have f1' : ∀ d, _ := fun d => callOp_in (fn := 11) (fr := H.length) (d := d) (pol := pol) rfl rfl rfl f1
  simp only [List.cons_append, List.nil_append] at f1'
  have nr := hv.noRefs
  have wf1 : WF (H ++ [[], [(1, O.cells [v]), (3, .cells [.int .i64 (-1)])]]) := hH.app (by simp only [clearH, clearF, O.refs, refsL, nr]; rfl)
  obtain ⟨r2, H2, f2, n2⟩ := next_cw v l hv (by omega) (H ++ [[], [(1, O.cells [v]), (3, .cells [.int .i64 (-1)])]]) (H.length + 1) (by simp) wf1 (-1) 0 rfl (by omega) (by rw [hget_app]; rfl) (by rw [hget_app]; rfl)
  have f2' : ∀ d, _ := fun d => callOp_in (fn := 11) (fr := H.length) (d := d) (pol := pol) rfl rfl rfl f2
  rw [List.drop_zero] at n2
  cases hs : scan l 0 with
  | none =>
    rw [hs] at n2
    obtain ⟨rfl, rfl⟩ := n2
    have e : takeR l = ([], 0, 9) := by
      have := freesFrom_scan l 0
      rw [hs] at this
      simp only [takeR, hk, if_true, this]
    rw [hset_app] at f2'
    have c2 : decide ((-1 : Int) < 0) = true := rfl
    have pop1 : popF H.length (.tuple [.nilslice, .int .i64 0, .int .i64 9]) (H ++ [[], [(1, O.cells [v]), (3, .cells [.int .i64 l.length])]]) = H := popF_drop rfl hH
    simp only [u_seq, u_region, u_block, w_op, evOp, us_val, us_call, us_panic, uc_ret, uc_pan, w_cond, ui_true, ui_false, w_opT, ust_val, ust_set, ust_call, uct_ret, w_guardT, ugt_tt, ugt_ff, ugt_tf, ugt_ft, u_draw, quietOp, w_guard, ug_tt, ug_ff, ug_tf, ug_ft, ug_no, ugt_no, nov, gd, w_loop, ul_some, u_ops_nil, u_skip, u_ret, u_exit, u_nil, u_code_ret, u_code_exit, u_code_panic, u_block_normal, u_block_ret, u_block_panic, u_block_exit, rho, putT, wr, b_add, b_sub, b_mul, b_eql, b_neq, b_lss, b_leq, b_gtr, b_geq, b_sadd, b_seql, b_sneq, oc_int, oc_bool, oc_str, oc_nilslice, oc_nilptr, oc_nilmap, oc_nilfunc, oc_nilface, bi_len, bi_max, bi_min, mx_nil, mx_one, frz_islice, frz_nilslice, frz_int, frz_bool, frz_str, List.getD_cons_zero, List.getD_cons_succ, List.set_cons_zero, List.set_cons_succ, List.map_cons, List.map_nil, Option.map_some, Option.map_none, Option.bind_some, Option.bind_none, List.length_nil, List.length_cons, List.nil_append, List.cons_append, List.append_nil, List.replicate_succ, List.replicate_zero, Nat.reduceAdd, Nat.reduceSub, Bool.false_eq_true, if_true, if_false, reduceIte, reduceCtorEq, List.getElem?_cons_zero, List.getElem?_cons_succ, List.getElem?_toArray, c1, f1', f2', c2, hset_succ, hset_zero, fset, Nat.reduceLT, Nat.reduceEqDiff]
    refine W.done (End.ret (v := .tuple [.nilslice, .int .i64 0, .int .i64 9]) rfl ⟨_, by rw [e], ?_⟩)
    rw [e, pop1]
    exact ⟨[], by rw [List.append_nil], hH, .inl ⟨rfl, rfl⟩⟩
  | some p =>
    rw [hs] at n2
    obtain ⟨rfl, rfl⟩ := n2
    have e : takeR l = (l.set p 1, (p : Int), 0) ∧ p < l.length := by
      have := freesFrom_scan l 0
      rw [hs] at this
      refine ⟨by simp only [takeR, hk, if_true, this]; rfl, ?_⟩
      have := scan_lt l 0 p hs
      omega
    obtain ⟨e, hp⟩ := e
    rw [hset_app] at f2'
    have c2 : decide ((p : Int) < 0) = false := decide_eq_false (by omega)
    obtain ⟨r3, H3, f3, rfl, rfl⟩ := clone_cw v l hv (by intro h; rw [h] at hl; cases hl) (by omega) (H ++ [[], [(1, O.cells [v]), (3, .cells [.int .i64 p])]])
    rw [List.append_assoc, List.length_append] at f3
    have f3' : ∀ d, _ := fun d => callOp_in (fn := 11) (fr := H.length) (d := d) (pol := pol) rfl rfl rfl f3
    simp only [List.cons_append, List.nil_append, List.length_cons, List.length_nil, Nat.zero_add, Nat.reduceAdd] at f3'
    have at1 := at_m (P := Tryd.prog) Tryd.underlying26 sz5 (f := H.length + 2) (s := 7) (o := 0) (len := l.length) (cap := none) (k := .i64) (i := (p : Int)) (by omega) (by omega)
    have st : (0 + (p : Int).toNat * 1) = p := by omega
    rw [st] at at1
    have hs1 := splice_byte l p 1 hp
    have hs1' : splice (ofBytes l) p [.int .u8 1] = ofBytes (l.set p 1) := hs1
    have c3 : (p + 1 ≤ (ofBytes l).length) = True := eq_true (by rw [ofBytes_length]; omega)
    simp only [u_seq, u_region, u_block, w_op, evOp, us_val, us_call, us_panic, uc_ret, uc_pan, w_cond, ui_true, ui_false, w_opT, ust_val, ust_set, ust_call, uct_ret, w_guardT, ugt_tt, ugt_ff, ugt_tf, ugt_ft, u_draw, quietOp, w_guard, ug_tt, ug_ff, ug_tf, ug_ft, ug_no, ugt_no, nov, gd, w_loop, ul_some, u_ops_nil, u_skip, u_ret, u_exit, u_nil, u_code_ret, u_code_exit, u_code_panic, u_block_normal, u_block_ret, u_block_panic, u_block_exit, rho, putT, wr, b_add, b_sub, b_mul, b_eql, b_neq, b_lss, b_leq, b_gtr, b_geq, b_sadd, b_seql, b_sneq, oc_int, oc_bool, oc_str, oc_nilslice, oc_nilptr, oc_nilmap, oc_nilfunc, oc_nilface, bi_len, bi_max, bi_min, mx_nil, mx_one, frz_islice, frz_nilslice, frz_int, frz_bool, frz_str, List.getD_cons_zero, List.getD_cons_succ, List.set_cons_zero, List.set_cons_succ, List.map_cons, List.map_nil, Option.map_some, Option.map_none, Option.bind_some, Option.bind_none, List.length_nil, List.length_cons, List.nil_append, List.cons_append, List.append_nil, List.replicate_succ, List.replicate_zero, Nat.reduceAdd, Nat.reduceSub, Bool.false_eq_true, if_true, if_false, reduceIte, reduceCtorEq, List.getElem?_cons_zero, List.getElem?_cons_succ, List.getElem?_toArray, c1, f1', f2', c2, hset_succ, hset_zero, fset, Nat.reduceLT, Nat.reduceEqDiff]
    simp only [u_seq, u_region, u_block, w_op, evOp, us_val, us_call, us_panic, uc_ret, uc_pan, w_cond, ui_true, ui_false, w_opT, ust_val, ust_set, ust_call, uct_ret, w_guardT, ugt_tt, ugt_ff, ugt_tf, ugt_ft, u_draw, quietOp, w_guard, ug_tt, ug_ff, ug_tf, ug_ft, ug_no, ugt_no, nov, gd, w_loop, ul_some, u_ops_nil, u_skip, u_ret, u_exit, u_nil, u_code_ret, u_code_exit, u_code_panic, u_block_normal, u_block_ret, u_block_panic, u_block_exit, rho, putT, wr, b_add, b_sub, b_mul, b_eql, b_neq, b_lss, b_leq, b_gtr, b_geq, b_sadd, b_seql, b_sneq, oc_int, oc_bool, oc_str, oc_nilslice, oc_nilptr, oc_nilmap, oc_nilfunc, oc_nilface, bi_len, bi_max, bi_min, mx_nil, mx_one, frz_islice, frz_nilslice, frz_int, frz_bool, frz_str, List.getD_cons_zero, List.getD_cons_succ, List.set_cons_zero, List.set_cons_succ, List.map_cons, List.map_nil, Option.map_some, Option.map_none, Option.bind_some, Option.bind_none, List.length_nil, List.length_cons, List.nil_append, List.cons_append, List.append_nil, List.replicate_succ, List.replicate_zero, Nat.reduceAdd, Nat.reduceSub, Bool.false_eq_true, if_true, if_false, reduceIte, reduceCtorEq, List.getElem?_cons_zero, List.getElem?_cons_succ, List.getElem?_toArray, f3', at1, sz5, c3, hs1', new, hget_app, hget_app0, hset_app, hset_app0, hset_zero, hget_zero, hset_succ, hget_succ, fget, fset, Nat.reduceLT, Nat.reduceEqDiff, Nat.lt_irrefl, Nat.not_lt_zero, Nat.lt_add_one, zerosN, fillV, cells_int, cells_bool, cells_str, cells_nilptr, cells_ptr, cells_iptr, cells_nilslice, cells_islice, cells_gslice, cells_mslice, cells_nilmap, cells_map, cells_func, cells_nilfunc, cells_nilface, cells_face, pureL, V.pure, Nat.reduceMul, Nat.reduceLeDiff, Nat.one_ne_zero, and_self, and_true, true_and, List.take_zero, List.drop_succ_cons, List.drop_zero, List.take_succ_cons, List.replicate_one, Bool.and_self, Bool.and_true, List.drop_nil, List.take_nil, Nat.le_refl, Nat.zero_add, Nat.zero_mul, Nat.one_mul, Nat.mul_one]
    refine W.done (End.ret (v := .tuple [.mslice (H.length + 2) 7 0 l.length none 1, .int .i64 p, .int .i64 0]) rfl ⟨_, by rw [e], ?_⟩)
    rw [popF_keep (by simp [V.refs, refsL])]
    rw [e]
    refine ⟨_, rfl, hH.app ?_, .inr ⟨H.length + 2, 7, none, by simp [List.getD], by omega, by simp, by rw [hget_app]; rfl⟩⟩
    simp [clearH, clearF, O.refs, refsL, nr, refsL_ofBytes, V.refs]
end Go.Proofs.YtpbhldhmjmfigaaDoor
