/- space: Give on any heap; Free. -/
import Derived.Test.YtpbhldhmjmfigaaDoorT7
set_option linter.unusedSimpArgs false
set_option linter.unusedVariables false
set_option maxRecDepth 100000
namespace Go.Proofs.YtpbhldhmjmfigaaDoor
open Go.AM
attribute [local irreducible] U W

theorem give_cw (v : V) (l : List UInt8) (hv : IsBytes v l) (a : Int) (H : Heap) (hH : WF H) :
    CW Tryd.prog pol 10 [v, .int .i64 a] H fun r H' => ∃ w, r = .ret (.tuple [w, .int .i64 (giveR l a).2]) ∧ Own H H' w (giveR l a).1 := by
  refine cw_of Tryd.func10 rfl ?_
  obtain ⟨m, rfl, hm⟩ := (check_fz v l hv).op (by rfl) (frzL_cons (hv.frz _) rfl)
  have hm' : ∀ d, _ := fun d => hm 10 H.length d (H ++ [[]]) rfl
  simp only [u_seq, u_region, u_block, w_op, evOp, us_val, us_call, us_panic, uc_ret, uc_pan, w_cond, ui_true, ui_false, w_opT, ust_val, ust_set, ust_call, uct_ret, w_guardT, ugt_tt, ugt_ff, ugt_tf, ugt_ft, u_draw, quietOp, w_guard, ug_tt, ug_ff, ug_tf, ug_ft, ug_no, ugt_no, nov, gd, w_loop, ul_some, u_ops_nil, u_skip, u_ret, u_exit, u_nil, u_code_ret, u_code_exit, u_code_panic, u_block_normal, u_block_ret, u_block_panic, u_block_exit, rho, putT, wr, b_add, b_sub, b_mul, b_eql, b_neq, b_lss, b_leq, b_gtr, b_geq, b_sadd, b_seql, b_sneq, oc_int, oc_bool, oc_str, oc_nilslice, oc_nilptr, oc_nilmap, oc_nilfunc, oc_nilface, bi_len, bi_max, bi_min, mx_nil, mx_one, frz_islice, frz_nilslice, frz_int, frz_bool, frz_str, List.getD_cons_zero, List.getD_cons_succ, List.set_cons_zero, List.set_cons_succ, List.map_cons, List.map_nil, Option.map_some, Option.map_none, Option.bind_some, Option.bind_none, List.length_nil, List.length_cons, List.nil_append, List.cons_append, List.append_nil, List.replicate_succ, List.replicate_zero, Nat.reduceAdd, Nat.reduceSub, Bool.false_eq_true, if_true, if_false, reduceIte, reduceCtorEq, List.getElem?_cons_zero, List.getElem?_cons_succ, List.getElem?_toArray, Tryd.ntmps10, hm']
  have pop0 : ∀ x : Int, popF H.length (.tuple [.nilslice, .int .i64 x]) (H ++ [[]]) = H := fun x => popF_drop rfl hH
  cases hk : okTab l
  · have c1 : ((8 : Int) != 0) = true := rfl
    have e : giveR l a = ([], 8) := by simp only [giveR, hk]; rfl
    simp only [u_seq, u_region, u_block, w_op, evOp, us_val, us_call, us_panic, uc_ret, uc_pan, w_cond, ui_true, ui_false, w_opT, ust_val, ust_set, ust_call, uct_ret, w_guardT, ugt_tt, ugt_ff, ugt_tf, ugt_ft, u_draw, quietOp, w_guard, ug_tt, ug_ff, ug_tf, ug_ft, ug_no, ugt_no, nov, gd, w_loop, ul_some, u_ops_nil, u_skip, u_ret, u_exit, u_nil, u_code_ret, u_code_exit, u_code_panic, u_block_normal, u_block_ret, u_block_panic, u_block_exit, rho, putT, wr, b_add, b_sub, b_mul, b_eql, b_neq, b_lss, b_leq, b_gtr, b_geq, b_sadd, b_seql, b_sneq, oc_int, oc_bool, oc_str, oc_nilslice, oc_nilptr, oc_nilmap, oc_nilfunc, oc_nilface, bi_len, bi_max, bi_min, mx_nil, mx_one, frz_islice, frz_nilslice, frz_int, frz_bool, frz_str, List.getD_cons_zero, List.getD_cons_succ, List.set_cons_zero, List.set_cons_succ, List.map_cons, List.map_nil, Option.map_some, Option.map_none, Option.bind_some, Option.bind_none, List.length_nil, List.length_cons, List.nil_append, List.cons_append, List.append_nil, List.replicate_succ, List.replicate_zero, Nat.reduceAdd, Nat.reduceSub, Bool.false_eq_true, if_true, if_false, reduceIte, reduceCtorEq, List.getElem?_cons_zero, List.getElem?_cons_succ, List.getElem?_toArray, c1]
    refine W.done (End.ret (v := .tuple [.nilslice, .int .i64 8]) rfl ⟨_, by rw [e], ?_⟩)
    rw [e, pop0]
    exact ⟨[], by rw [List.append_nil], hH, .inl ⟨rfl, rfl⟩⟩
  have c1 : ((0 : Int) != 0) = false := rfl
  have hl := okTab_len hk
  simp only [u_seq, u_region, u_block, w_op, evOp, us_val, us_call, us_panic, uc_ret, uc_pan, w_cond, ui_true, ui_false, w_opT, ust_val, ust_set, ust_call, uct_ret, w_guardT, ugt_tt, ugt_ff, ugt_tf, ugt_ft, u_draw, quietOp, w_guard, ug_tt, ug_ff, ug_tf, ug_ft, ug_no, ugt_no, nov, gd, w_loop, ul_some, u_ops_nil, u_skip, u_ret, u_exit, u_nil, u_code_ret, u_code_exit, u_code_panic, u_block_normal, u_block_ret, u_block_panic, u_block_exit, rho, putT, wr, b_add, b_sub, b_mul, b_eql, b_neq, b_lss, b_leq, b_gtr, b_geq, b_sadd, b_seql, b_sneq, oc_int, oc_bool, oc_str, oc_nilslice, oc_nilptr, oc_nilmap, oc_nilfunc, oc_nilface, bi_len, bi_max, bi_min, mx_nil, mx_one, frz_islice, frz_nilslice, frz_int, frz_bool, frz_str, List.getD_cons_zero, List.getD_cons_succ, List.set_cons_zero, List.set_cons_succ, List.map_cons, List.map_nil, Option.map_some, Option.map_none, Option.bind_some, Option.bind_none, List.length_nil, List.length_cons, List.nil_append, List.cons_append, List.append_nil, List.replicate_succ, List.replicate_zero, Nat.reduceAdd, Nat.reduceSub, Bool.false_eq_true, if_true, if_false, reduceIte, reduceCtorEq, List.getElem?_cons_zero, List.getElem?_cons_succ, List.getElem?_toArray, c1]
  have bad2 : a < 12 ∨ 256 ≤ a → giveR l a = ([], 2) := fun h => by simp only [giveR, hk, if_true]; rw [if_pos h]
  refine W.guardF (fun g1 => ?_) (fun g1 => ?_)
  · have g2 := of_decide_eq_false g1
    simp only [u_seq, u_region, u_block, w_op, evOp, us_val, us_call, us_panic, uc_ret, uc_pan, w_cond, ui_true, ui_false, w_opT, ust_val, ust_set, ust_call, uct_ret, w_guardT, ugt_tt, ugt_ff, ugt_tf, ugt_ft, u_draw, quietOp, w_guard, ug_tt, ug_ff, ug_tf, ug_ft, ug_no, ugt_no, nov, gd, w_loop, ul_some, u_ops_nil, u_skip, u_ret, u_exit, u_nil, u_code_ret, u_code_exit, u_code_panic, u_block_normal, u_block_ret, u_block_panic, u_block_exit, rho, putT, wr, b_add, b_sub, b_mul, b_eql, b_neq, b_lss, b_leq, b_gtr, b_geq, b_sadd, b_seql, b_sneq, oc_int, oc_bool, oc_str, oc_nilslice, oc_nilptr, oc_nilmap, oc_nilfunc, oc_nilface, bi_len, bi_max, bi_min, mx_nil, mx_one, frz_islice, frz_nilslice, frz_int, frz_bool, frz_str, List.getD_cons_zero, List.getD_cons_succ, List.set_cons_zero, List.set_cons_succ, List.map_cons, List.map_nil, Option.map_some, Option.map_none, Option.bind_some, Option.bind_none, List.length_nil, List.length_cons, List.nil_append, List.cons_append, List.append_nil, List.replicate_succ, List.replicate_zero, Nat.reduceAdd, Nat.reduceSub, Bool.false_eq_true, if_true, if_false, reduceIte, reduceCtorEq, List.getElem?_cons_zero, List.getElem?_cons_succ, List.getElem?_toArray, g1]
    refine W.ite (fun g3 => ?_) (fun g3 => ?_)
    · have g4 := of_decide_eq_true g3
      have e := bad2 (by omega)
      simp only [u_seq, u_region, u_block, w_op, evOp, us_val, us_call, us_panic, uc_ret, uc_pan, w_cond, ui_true, ui_false, w_opT, ust_val, ust_set, ust_call, uct_ret, w_guardT, ugt_tt, ugt_ff, ugt_tf, ugt_ft, u_draw, quietOp, w_guard, ug_tt, ug_ff, ug_tf, ug_ft, ug_no, ugt_no, nov, gd, w_loop, ul_some, u_ops_nil, u_skip, u_ret, u_exit, u_nil, u_code_ret, u_code_exit, u_code_panic, u_block_normal, u_block_ret, u_block_panic, u_block_exit, rho, putT, wr, b_add, b_sub, b_mul, b_eql, b_neq, b_lss, b_leq, b_gtr, b_geq, b_sadd, b_seql, b_sneq, oc_int, oc_bool, oc_str, oc_nilslice, oc_nilptr, oc_nilmap, oc_nilfunc, oc_nilface, bi_len, bi_max, bi_min, mx_nil, mx_one, frz_islice, frz_nilslice, frz_int, frz_bool, frz_str, List.getD_cons_zero, List.getD_cons_succ, List.set_cons_zero, List.set_cons_succ, List.map_cons, List.map_nil, Option.map_some, Option.map_none, Option.bind_some, Option.bind_none, List.length_nil, List.length_cons, List.nil_append, List.cons_append, List.append_nil, List.replicate_succ, List.replicate_zero, Nat.reduceAdd, Nat.reduceSub, Bool.false_eq_true, if_true, if_false, reduceIte, reduceCtorEq, List.getElem?_cons_zero, List.getElem?_cons_succ, List.getElem?_toArray]
      refine W.done (End.ret (v := .tuple [.nilslice, .int .i64 2]) rfl ⟨_, by rw [e], ?_⟩)
      rw [e, pop0]
      exact ⟨[], by rw [List.append_nil], hH, .inl ⟨rfl, rfl⟩⟩
    · have g4 := of_decide_eq_false g3
      obtain ⟨i, rfl⟩ : ∃ i : Nat, a = i := ⟨a.toNat, by omega⟩
      have at1 := hv.at (k := .i64) Tryd.underlying26 sz5 (by decide) (i := (i : Int)) (by omega) (by omega)
      have hlt : i < l.length := by omega
      have e0 : ∀ x, (if l[(i : Int).toNat]? = some 1 then (l.set (i : Int).toNat 2, (0 : Int)) else ([], 6)) = x → giveR l i = x := by
        intro x hx
        simp only [giveR, hk, if_true]
        rw [if_neg (by omega)]
        exact hx
      simp only [u_seq, u_region, u_block, w_op, evOp, us_val, us_call, us_panic, uc_ret, uc_pan, w_cond, ui_true, ui_false, w_opT, ust_val, ust_set, ust_call, uct_ret, w_guardT, ugt_tt, ugt_ff, ugt_tf, ugt_ft, u_draw, quietOp, w_guard, ug_tt, ug_ff, ug_tf, ug_ft, ug_no, ugt_no, nov, gd, w_loop, ul_some, u_ops_nil, u_skip, u_ret, u_exit, u_nil, u_code_ret, u_code_exit, u_code_panic, u_block_normal, u_block_ret, u_block_panic, u_block_exit, rho, putT, wr, b_add, b_sub, b_mul, b_eql, b_neq, b_lss, b_leq, b_gtr, b_geq, b_sadd, b_seql, b_sneq, oc_int, oc_bool, oc_str, oc_nilslice, oc_nilptr, oc_nilmap, oc_nilfunc, oc_nilface, bi_len, bi_max, bi_min, mx_nil, mx_one, frz_islice, frz_nilslice, frz_int, frz_bool, frz_str, List.getD_cons_zero, List.getD_cons_succ, List.set_cons_zero, List.set_cons_succ, List.map_cons, List.map_nil, Option.map_some, Option.map_none, Option.bind_some, Option.bind_none, List.length_nil, List.length_cons, List.nil_append, List.cons_append, List.append_nil, List.replicate_succ, List.replicate_zero, Nat.reduceAdd, Nat.reduceSub, Bool.false_eq_true, if_true, if_false, reduceIte, reduceCtorEq, List.getElem?_cons_zero, List.getElem?_cons_succ, List.getElem?_toArray, at1, rd5, gb hlt]
      refine W.ite (fun g5 => ?_) (fun g5 => ?_)
      · have g6 : l[i] ≠ 1 := fun e => bne_iff_ne.1 g5 (by rw [e]; rfl)
        have e := e0 _ (by rw [if_neg]; simp [hlt, g6])
        simp only [u_seq, u_region, u_block, w_op, evOp, us_val, us_call, us_panic, uc_ret, uc_pan, w_cond, ui_true, ui_false, w_opT, ust_val, ust_set, ust_call, uct_ret, w_guardT, ugt_tt, ugt_ff, ugt_tf, ugt_ft, u_draw, quietOp, w_guard, ug_tt, ug_ff, ug_tf, ug_ft, ug_no, ugt_no, nov, gd, w_loop, ul_some, u_ops_nil, u_skip, u_ret, u_exit, u_nil, u_code_ret, u_code_exit, u_code_panic, u_block_normal, u_block_ret, u_block_panic, u_block_exit, rho, putT, wr, b_add, b_sub, b_mul, b_eql, b_neq, b_lss, b_leq, b_gtr, b_geq, b_sadd, b_seql, b_sneq, oc_int, oc_bool, oc_str, oc_nilslice, oc_nilptr, oc_nilmap, oc_nilfunc, oc_nilface, bi_len, bi_max, bi_min, mx_nil, mx_one, frz_islice, frz_nilslice, frz_int, frz_bool, frz_str, List.getD_cons_zero, List.getD_cons_succ, List.set_cons_zero, List.set_cons_succ, List.map_cons, List.map_nil, Option.map_some, Option.map_none, Option.bind_some, Option.bind_none, List.length_nil, List.length_cons, List.nil_append, List.cons_append, List.append_nil, List.replicate_succ, List.replicate_zero, Nat.reduceAdd, Nat.reduceSub, Bool.false_eq_true, if_true, if_false, reduceIte, reduceCtorEq, List.getElem?_cons_zero, List.getElem?_cons_succ, List.getElem?_toArray]
        refine W.done (End.ret (v := .tuple [.nilslice, .int .i64 6]) rfl ⟨_, by rw [e], ?_⟩)
        rw [e, pop0]
        exact ⟨[], by rw [List.append_nil], hH, .inl ⟨rfl, rfl⟩⟩
      · have g6 : l[i] = 1 := (u8_eq _ 1).1 (by simpa using g5)
        have e := e0 _ (by rw [if_pos]; simp [hlt, g6])
        obtain ⟨r3, H3, f3, rfl, rfl⟩ := clone_cw v l hv (by intro h; rw [h] at hl; cases hl) (by omega) (H ++ [[]])
        rw [List.append_assoc, List.length_append] at f3
        have f3' : ∀ d, _ := fun d => callOp_in (fn := 10) (fr := H.length) (d := d) (pol := pol) rfl rfl rfl f3
        simp only [List.cons_append, List.nil_append, List.length_cons, List.length_nil, Nat.zero_add, Nat.reduceAdd] at f3'
        have at2 := at_m (P := Tryd.prog) Tryd.underlying26 sz5 (f := H.length + 1) (s := 7) (o := 0) (len := l.length) (cap := none) (k := .i64) (i := (i : Int)) (by omega) (by omega)
        have st : (0 + (i : Int).toNat * 1) = i := by omega
        rw [st] at at2
        have hs1 := splice_byte l i 2 hlt
        have hs1' : splice (ofBytes l) i [.int .u8 2] = ofBytes (l.set i 2) := hs1
        have c3 : (i + 1 ≤ (ofBytes l).length) = True := eq_true (by rw [ofBytes_length]; omega)
        simp only [u_seq, u_region, u_block, w_op, evOp, us_val, us_call, us_panic, uc_ret, uc_pan, w_cond, ui_true, ui_false, w_opT, ust_val, ust_set, ust_call, uct_ret, w_guardT, ugt_tt, ugt_ff, ugt_tf, ugt_ft, u_draw, quietOp, w_guard, ug_tt, ug_ff, ug_tf, ug_ft, ug_no, ugt_no, nov, gd, w_loop, ul_some, u_ops_nil, u_skip, u_ret, u_exit, u_nil, u_code_ret, u_code_exit, u_code_panic, u_block_normal, u_block_ret, u_block_panic, u_block_exit, rho, putT, wr, b_add, b_sub, b_mul, b_eql, b_neq, b_lss, b_leq, b_gtr, b_geq, b_sadd, b_seql, b_sneq, oc_int, oc_bool, oc_str, oc_nilslice, oc_nilptr, oc_nilmap, oc_nilfunc, oc_nilface, bi_len, bi_max, bi_min, mx_nil, mx_one, frz_islice, frz_nilslice, frz_int, frz_bool, frz_str, List.getD_cons_zero, List.getD_cons_succ, List.set_cons_zero, List.set_cons_succ, List.map_cons, List.map_nil, Option.map_some, Option.map_none, Option.bind_some, Option.bind_none, List.length_nil, List.length_cons, List.nil_append, List.cons_append, List.append_nil, List.replicate_succ, List.replicate_zero, Nat.reduceAdd, Nat.reduceSub, Bool.false_eq_true, if_true, if_false, reduceIte, reduceCtorEq, List.getElem?_cons_zero, List.getElem?_cons_succ, List.getElem?_toArray, f3', at2, sz5, c3, hs1', new, hget_app, hget_app0, hset_app, hset_app0, hset_zero, hget_zero, hset_succ, hget_succ, fget, fset, Nat.reduceLT, Nat.reduceEqDiff, Nat.lt_irrefl, Nat.not_lt_zero, Nat.lt_add_one, zerosN, fillV, cells_int, cells_bool, cells_str, cells_nilptr, cells_ptr, cells_iptr, cells_nilslice, cells_islice, cells_gslice, cells_mslice, cells_nilmap, cells_map, cells_func, cells_nilfunc, cells_nilface, cells_face, pureL, V.pure, Nat.reduceMul, Nat.reduceLeDiff, Nat.one_ne_zero, and_self, and_true, true_and, List.take_zero, List.drop_succ_cons, List.drop_zero, List.take_succ_cons, List.replicate_one, Bool.and_self, Bool.and_true, List.drop_nil, List.take_nil, Nat.le_refl, Nat.zero_add, Nat.zero_mul, Nat.one_mul, Nat.mul_one]
        refine W.done (End.ret (v := .tuple [.mslice (H.length + 1) 7 0 l.length none 1, .int .i64 0]) rfl ⟨_, by rw [e], ?_⟩)
        rw [popF_keep (by simp [V.refs, refsL])]
        rw [e]
        refine ⟨_, rfl, hH.app ?_, .inr ⟨H.length + 1, 7, none, by simp, by omega, by simp, by rw [hget_app]; rfl⟩⟩
        simp [clearH, clearF, O.refs, refsL_ofBytes]
  · have g2 := of_decide_eq_true g1
    have e := bad2 (by omega)
    simp only [u_seq, u_region, u_block, w_op, evOp, us_val, us_call, us_panic, uc_ret, uc_pan, w_cond, ui_true, ui_false, w_opT, ust_val, ust_set, ust_call, uct_ret, w_guardT, ugt_tt, ugt_ff, ugt_tf, ugt_ft, u_draw, quietOp, w_guard, ug_tt, ug_ff, ug_tf, ug_ft, ug_no, ugt_no, nov, gd, w_loop, ul_some, u_ops_nil, u_skip, u_ret, u_exit, u_nil, u_code_ret, u_code_exit, u_code_panic, u_block_normal, u_block_ret, u_block_panic, u_block_exit, rho, putT, wr, b_add, b_sub, b_mul, b_eql, b_neq, b_lss, b_leq, b_gtr, b_geq, b_sadd, b_seql, b_sneq, oc_int, oc_bool, oc_str, oc_nilslice, oc_nilptr, oc_nilmap, oc_nilfunc, oc_nilface, bi_len, bi_max, bi_min, mx_nil, mx_one, frz_islice, frz_nilslice, frz_int, frz_bool, frz_str, List.getD_cons_zero, List.getD_cons_succ, List.set_cons_zero, List.set_cons_succ, List.map_cons, List.map_nil, Option.map_some, Option.map_none, Option.bind_some, Option.bind_none, List.length_nil, List.length_cons, List.nil_append, List.cons_append, List.append_nil, List.replicate_succ, List.replicate_zero, Nat.reduceAdd, Nat.reduceSub, Bool.false_eq_true, if_true, if_false, reduceIte, reduceCtorEq, List.getElem?_cons_zero, List.getElem?_cons_succ, List.getElem?_toArray, g1]
    refine W.done (End.ret (v := .tuple [.nilslice, .int .i64 2]) rfl ⟨_, by rw [e], ?_⟩)
    rw [e, pop0]
    exact ⟨[], by rw [List.append_nil], hH, .inl ⟨rfl, rfl⟩⟩

def cur6 : Option Nat → V
  | some p => .int .i64 p
  | none => .int .i64 (-1)
def cell6 (n : Nat) : Option Nat → Int
  | some p => p
  | none => n
def rest6 (l : List UInt8) : Option Nat → List Int
  | some p => (p : Int) :: freesFrom (l.drop (p + 1)) (p + 1)
  | none => []
theorem rest6_scan (l : List UInt8) (a : Nat) : freesFrom (l.drop a) a = rest6 l (scan (l.drop a) a) := by
  rw [freesFrom_scan (l.drop a) a]
  cases hs : scan (l.drop a) a with
  | none => rfl
  | some p =>
    have := (scan_lt _ _ _ hs).1
    simp only [rest6, List.drop_drop]
    rw [show a + (p + 1 - a) = p + 1 by omega]
def low6 (F : AM.Frame) (q : List Int) (w : V) : Prop := (w = .nilslice ∧ q = [] ∧ F = []) ∨ (w = .gslice 0 23 (ofInts q) q.length 1 ∧ 0 < q.length ∧ F = [(23, .grow q.length)])

theorem free_fz (v : V) (l : List UInt8) (hv : IsBytes v l) :
    Fz Tryd.prog pol 8 [v] fun r => ∃ w, r = .tuple [w, .int .i64 (freeR l).2] ∧ IsInts w (freeR l).1 := by
  refine fz_of Tryd.func8 rfl ?_
  obtain ⟨m, rfl, hm⟩ := (check_fz v l hv).op (by rfl) (frzL_cons (hv.frz _) rfl)
  have hm' : ∀ d, _ := fun d => hm 8 0 d [[]] rfl
  simp only [u_seq, u_region, u_block, w_op, evOp, us_val, us_call, us_panic, uc_ret, uc_pan, w_cond, ui_true, ui_false, w_opT, ust_val, ust_set, ust_call, uct_ret, w_guardT, ugt_tt, ugt_ff, ugt_tf, ugt_ft, u_draw, quietOp, w_guard, ug_tt, ug_ff, ug_tf, ug_ft, ug_no, ugt_no, nov, gd, w_loop, ul_some, u_ops_nil, u_skip, u_ret, u_exit, u_nil, u_code_ret, u_code_exit, u_code_panic, u_block_normal, u_block_ret, u_block_panic, u_block_exit, rho, putT, wr, b_add, b_sub, b_mul, b_eql, b_neq, b_lss, b_leq, b_gtr, b_geq, b_sadd, b_seql, b_sneq, oc_int, oc_bool, oc_str, oc_nilslice, oc_nilptr, oc_nilmap, oc_nilfunc, oc_nilface, bi_len, bi_max, bi_min, mx_nil, mx_one, frz_islice, frz_nilslice, frz_int, frz_bool, frz_str, List.getD_cons_zero, List.getD_cons_succ, List.set_cons_zero, List.set_cons_succ, List.map_cons, List.map_nil, Option.map_some, Option.map_none, Option.bind_some, Option.bind_none, List.length_nil, List.length_cons, List.nil_append, List.cons_append, List.append_nil, List.replicate_succ, List.replicate_zero, Nat.reduceAdd, Nat.reduceSub, Bool.false_eq_true, if_true, if_false, reduceIte, reduceCtorEq, List.getElem?_cons_zero, List.getElem?_cons_succ, List.getElem?_toArray, Tryd.ntmps8, hm']
  cases hk : okTab l
  · have c1 : ((8 : Int) != 0) = true := rfl
    simp only [u_seq, u_region, u_block, w_op, evOp, us_val, us_call, us_panic, uc_ret, uc_pan, w_cond, ui_true, ui_false, w_opT, ust_val, ust_set, ust_call, uct_ret, w_guardT, ugt_tt, ugt_ff, ugt_tf, ugt_ft, u_draw, quietOp, w_guard, ug_tt, ug_ff, ug_tf, ug_ft, ug_no, ugt_no, nov, gd, w_loop, ul_some, u_ops_nil, u_skip, u_ret, u_exit, u_nil, u_code_ret, u_code_exit, u_code_panic, u_block_normal, u_block_ret, u_block_panic, u_block_exit, rho, putT, wr, b_add, b_sub, b_mul, b_eql, b_neq, b_lss, b_leq, b_gtr, b_geq, b_sadd, b_seql, b_sneq, oc_int, oc_bool, oc_str, oc_nilslice, oc_nilptr, oc_nilmap, oc_nilfunc, oc_nilface, bi_len, bi_max, bi_min, mx_nil, mx_one, frz_islice, frz_nilslice, frz_int, frz_bool, frz_str, List.getD_cons_zero, List.getD_cons_succ, List.set_cons_zero, List.set_cons_succ, List.map_cons, List.map_nil, Option.map_some, Option.map_none, Option.bind_some, Option.bind_none, List.length_nil, List.length_cons, List.nil_append, List.cons_append, List.append_nil, List.replicate_succ, List.replicate_zero, Nat.reduceAdd, Nat.reduceSub, Bool.false_eq_true, if_true, if_false, reduceIte, reduceCtorEq, List.getElem?_cons_zero, List.getElem?_cons_succ, List.getElem?_toArray, c1]
    refine W.done (EndZ.ret (v := .tuple [.nilslice, .int .i64 8]) rfl rfl ⟨_, by simp only [freeR, hk]; rfl, by simp only [freeR, hk]; exact IsInts.nil⟩)
  have c1 : ((0 : Int) != 0) = false := rfl
  have hl := okTab_len hk
  have e : freeR l = (freesFrom l 0, 0) := by simp only [freeR, hk, if_true]
  obtain ⟨r1, H1, f1, rfl, rfl⟩ := free_cw v l hv [[]]
  have f1' : ∀ d, callOp pol (callW Tryd.prog pol) 8 0 d 24 [v] [[]] = some (.ret (.func (.func 34) [] [.ptr 1 3 0, .ptr 1 1 0]), [[], [(1, .cells [v]), (3, .cells [.int .i64 (-1)])]]) := fun d => callOp_in (pol := pol) rfl rfl rfl f1
  have nr := hv.noRefs
  have wf : ∀ (F : AM.Frame) (q : List Int) (w : V) (i : Int), low6 F q w → WF [F, [(1, O.cells [v]), (3, .cells [.int .i64 i])]] := by
    rintro F q w i (⟨rfl, rfl, rfl⟩ | ⟨rfl, h, rfl⟩) <;> simp [WF, clearH, clearF, O.refs, refsL, nr, V.refs]
  have nxt : ∀ (F : AM.Frame) (q : List Int) (w : V) (i : Int) (n : Nat) (d : Option Nat), low6 F q w → i + 1 = n → n ≤ l.length →
      callOp pol (callW Tryd.prog pol) 8 0 d 34 [.ptr 1 3 0, .ptr 1 1 0] [F, [(1, O.cells [v]), (3, .cells [.int .i64 i])]] =
        some (.ret (cur6 (scan (l.drop n) n)), [F, [(1, O.cells [v]), (3, .cells [.int .i64 (cell6 l.length (scan (l.drop n) n))])]]) := by
    intro F q w i n d h1 h2 h3
    obtain ⟨r2, H2, f2, n2⟩ := next_cw v l hv (by omega) [F, [(1, O.cells [v]), (3, .cells [.int .i64 i])]] 1 (by simp) (wf F q w i h1) i n h2 h3 rfl rfl
    refine (callOp_in (fn := 8) (fr := 0) (d := d) (pol := pol) rfl rfl rfl f2).trans ?_
    cases hs : scan (l.drop n) n with
    | none => rw [hs] at n2; obtain ⟨rfl, rfl⟩ := n2; rfl
    | some p => rw [hs] at n2; obtain ⟨rfl, rfl⟩ := n2; rfl
  have nx0 : ∀ d, _ := fun d => nxt [] [] .nilslice (-1) 0 d (.inl ⟨rfl, rfl, rfl⟩) rfl (by omega)
  simp only [u_seq, u_region, u_block, w_op, evOp, us_val, us_call, us_panic, uc_ret, uc_pan, w_cond, ui_true, ui_false, w_opT, ust_val, ust_set, ust_call, uct_ret, w_guardT, ugt_tt, ugt_ff, ugt_tf, ugt_ft, u_draw, quietOp, w_guard, ug_tt, ug_ff, ug_tf, ug_ft, ug_no, ugt_no, nov, gd, w_loop, ul_some, u_ops_nil, u_skip, u_ret, u_exit, u_nil, u_code_ret, u_code_exit, u_code_panic, u_block_normal, u_block_ret, u_block_panic, u_block_exit, rho, putT, wr, b_add, b_sub, b_mul, b_eql, b_neq, b_lss, b_leq, b_gtr, b_geq, b_sadd, b_seql, b_sneq, oc_int, oc_bool, oc_str, oc_nilslice, oc_nilptr, oc_nilmap, oc_nilfunc, oc_nilface, bi_len, bi_max, bi_min, mx_nil, mx_one, frz_islice, frz_nilslice, frz_int, frz_bool, frz_str, List.getD_cons_zero, List.getD_cons_succ, List.set_cons_zero, List.set_cons_succ, List.map_cons, List.map_nil, Option.map_some, Option.map_none, Option.bind_some, Option.bind_none, List.length_nil, List.length_cons, List.nil_append, List.cons_append, List.append_nil, List.replicate_succ, List.replicate_zero, Nat.reduceAdd, Nat.reduceSub, Bool.false_eq_true, if_true, if_false, reduceIte, reduceCtorEq, List.getElem?_cons_zero, List.getElem?_cons_succ, List.getElem?_toArray, c1, f1', nx0]
  refine W.ul ?_
  refine W.loop (fun (a : Option Nat × List Int) t H => ∃ w F, maskT [2, 5, 6] t 0 = st8_6 w (.func (.func 34) [] [.ptr 1 3 0, .ptr 1 1 0]) (cur6 a.1) ∧ H = [F, [(1, O.cells [v]), (3, .cells [.int .i64 (cell6 l.length a.1)])]] ∧
    low6 F a.2 w ∧ a.2 ++ rest6 l a.1 = freesFrom l 0 ∧ ∀ p, a.1 = some p → p < l.length) (fun a => match a.1 with | some p => l.length + 1 - p | none => 0) ?_ (scan l 0, []) ⟨.nilslice, [], rfl, rfl, .inl ⟨rfl, rfl, rfl⟩, ?_, ?_⟩
  rotate_left
  · have := rest6_scan l 0; rw [List.drop_zero] at this; simp [this]
  · intro p hp; have := (scan_lt _ _ _ hp).2.1; omega
  rintro ⟨c, q⟩ t H ⟨w, F, ht, rfl, hw, hq, hp⟩
  refine ⟨_, _, by rw [forget_keep (kt := [2, 5, 6]) rfl, ht], ?_⟩
  simp only [st8_6]
  simp only at hw hq hp
  have lq : q.length ≤ 256 := by
    have := freesFrom_le l 0
    rw [← hq] at this
    simp at this
    omega
  cases c with
  | none =>
    have c2 : decide ((-1 : Int) ≥ 0) = false := rfl
    simp only [cur6]
    simp only [u_seq, u_region, u_block, w_op, evOp, us_val, us_call, us_panic, uc_ret, uc_pan, w_cond, ui_true, ui_false, w_opT, ust_val, ust_set, ust_call, uct_ret, w_guardT, ugt_tt, ugt_ff, ugt_tf, ugt_ft, u_draw, quietOp, w_guard, ug_tt, ug_ff, ug_tf, ug_ft, ug_no, ugt_no, nov, gd, w_loop, ul_some, u_ops_nil, u_skip, u_ret, u_exit, u_nil, u_code_ret, u_code_exit, u_code_panic, u_block_normal, u_block_ret, u_block_panic, u_block_exit, rho, putT, wr, b_add, b_sub, b_mul, b_eql, b_neq, b_lss, b_leq, b_gtr, b_geq, b_sadd, b_seql, b_sneq, oc_int, oc_bool, oc_str, oc_nilslice, oc_nilptr, oc_nilmap, oc_nilfunc, oc_nilface, bi_len, bi_max, bi_min, mx_nil, mx_one, frz_islice, frz_nilslice, frz_int, frz_bool, frz_str, List.getD_cons_zero, List.getD_cons_succ, List.set_cons_zero, List.set_cons_succ, List.map_cons, List.map_nil, Option.map_some, Option.map_none, Option.bind_some, Option.bind_none, List.length_nil, List.length_cons, List.nil_append, List.cons_append, List.append_nil, List.replicate_succ, List.replicate_zero, Nat.reduceAdd, Nat.reduceSub, Bool.false_eq_true, if_true, if_false, reduceIte, reduceCtorEq, List.getElem?_cons_zero, List.getElem?_cons_succ, List.getElem?_toArray, c2]
    refine W.done ?_
    simp only [u_seq, u_region, u_block, w_op, evOp, us_val, us_call, us_panic, uc_ret, uc_pan, w_cond, ui_true, ui_false, w_opT, ust_val, ust_set, ust_call, uct_ret, w_guardT, ugt_tt, ugt_ff, ugt_tf, ugt_ft, u_draw, quietOp, w_guard, ug_tt, ug_ff, ug_tf, ug_ft, ug_no, ugt_no, nov, gd, w_loop, ul_some, u_ops_nil, u_skip, u_ret, u_exit, u_nil, u_code_ret, u_code_exit, u_code_panic, u_block_normal, u_block_ret, u_block_panic, u_block_exit, rho, putT, wr, b_add, b_sub, b_mul, b_eql, b_neq, b_lss, b_leq, b_gtr, b_geq, b_sadd, b_seql, b_sneq, oc_int, oc_bool, oc_str, oc_nilslice, oc_nilptr, oc_nilmap, oc_nilfunc, oc_nilface, bi_len, bi_max, bi_min, mx_nil, mx_one, frz_islice, frz_nilslice, frz_int, frz_bool, frz_str, List.getD_cons_zero, List.getD_cons_succ, List.set_cons_zero, List.set_cons_succ, List.map_cons, List.map_nil, Option.map_some, Option.map_none, Option.bind_some, Option.bind_none, List.length_nil, List.length_cons, List.nil_append, List.cons_append, List.append_nil, List.replicate_succ, List.replicate_zero, Nat.reduceAdd, Nat.reduceSub, Bool.false_eq_true, if_true, if_false, reduceIte, reduceCtorEq, List.getElem?_cons_zero, List.getElem?_cons_succ, List.getElem?_toArray]
    simp only [rest6, List.append_nil] at hq
    subst hq
    rcases hw with ⟨rfl, hq0, rfl⟩ | ⟨rfl, hq0, rfl⟩
    · exact W.done (EndZ.ret rfl rfl ⟨_, by rw [e]; rfl, by rw [e, hq0]; exact IsInts.nil⟩)
    · exact W.done (EndZ.ret rfl rfl ⟨_, by rw [e]; rfl, by rw [e]; exact IsInts.mk _ _⟩)
  | some p =>
    have hp' := hp p rfl
    have c2 : decide ((p : Int) ≥ 0) = true := decide_eq_true (by omega)
    simp only [cur6]
    have mt0 : ∀ s, pol.mt 8 s = false := fun s => rfl
    have sc : ∀ g, sliceCells g 1 (.islice [.int .i64 p] 1 true) = some ([.int .i64 p], 1) := fun g => rfl
    generalize hQ : q ++ [(p : Int)] = Q at *
    have ap : appendV Tryd.prog (pol.mt 8) 0 (hget [F, [(1, O.cells [v]), (3, .cells [.int .i64 p])]]) (some 23) 22 22 w (.islice [.int .i64 p] 1 true) =
        some (.val (.gslice 0 23 (ofInts Q) Q.length 1) (some (0, 23, .grow Q.length))) := by
      subst hQ
      rcases hw with ⟨rfl, rfl, rfl⟩ | ⟨rfl, hq0, rfl⟩
      · rw [app_nil Tryd.underlying22 sz3 by64 zc3 rfl Tryd.underlying22 (sc _) (by decide) (by decide), grown_im rfl rfl rfl]
        rfl
      · rw [app_more Tryd.underlying22 sz3 by64 zc3 rfl Tryd.underlying22 (sc _) (by decide) (roomy_of (by omega) (by omega)) rfl rfl rfl]
        simp [ofInts]
    have hs : hset [F, [(1, O.cells [v]), (3, .cells [.int .i64 p])]] 0 23 (.grow Q.length) = [[(23, .grow Q.length)], [(1, O.cells [v]), (3, .cells [.int .i64 p])]] := by
      rcases hw with ⟨rfl, rfl, rfl⟩ | ⟨rfl, hq0, rfl⟩ <;> rfl
    have lw : low6 [(23, .grow Q.length)] Q (.gslice 0 23 (ofInts Q) Q.length 1) := .inr ⟨rfl, by rw [← hQ]; simp, rfl⟩
    have nx1 : ∀ d, _ := fun d => nxt _ _ _ (p : Int) (p + 1) d lw rfl (by omega)
    simp only [cell6] at *
    simp only [u_seq, u_region, u_block, w_op, evOp, us_val, us_call, us_panic, uc_ret, uc_pan, w_cond, ui_true, ui_false, w_opT, ust_val, ust_set, ust_call, uct_ret, w_guardT, ugt_tt, ugt_ff, ugt_tf, ugt_ft, u_draw, quietOp, w_guard, ug_tt, ug_ff, ug_tf, ug_ft, ug_no, ugt_no, nov, gd, w_loop, ul_some, u_ops_nil, u_skip, u_ret, u_exit, u_nil, u_code_ret, u_code_exit, u_code_panic, u_block_normal, u_block_ret, u_block_panic, u_block_exit, rho, putT, wr, b_add, b_sub, b_mul, b_eql, b_neq, b_lss, b_leq, b_gtr, b_geq, b_sadd, b_seql, b_sneq, oc_int, oc_bool, oc_str, oc_nilslice, oc_nilptr, oc_nilmap, oc_nilfunc, oc_nilface, bi_len, bi_max, bi_min, mx_nil, mx_one, frz_islice, frz_nilslice, frz_int, frz_bool, frz_str, List.getD_cons_zero, List.getD_cons_succ, List.set_cons_zero, List.set_cons_succ, List.map_cons, List.map_nil, Option.map_some, Option.map_none, Option.bind_some, Option.bind_none, List.length_nil, List.length_cons, List.nil_append, List.cons_append, List.append_nil, List.replicate_succ, List.replicate_zero, Nat.reduceAdd, Nat.reduceSub, Bool.false_eq_true, if_true, if_false, reduceIte, reduceCtorEq, List.getElem?_cons_zero, List.getElem?_cons_succ, List.getElem?_toArray, c2, zc3, Tryd.underlying22, sz3, mt0, bi_append, ap, hs, nx1, splice, zerosN, fillV, cells_int, cells_bool, cells_str, cells_nilptr, cells_ptr, cells_iptr, cells_nilslice, cells_islice, cells_gslice, cells_mslice, cells_nilmap, cells_map, cells_func, cells_nilfunc, cells_nilface, cells_face, pureL, V.pure, Nat.reduceMul, Nat.reduceLeDiff, Nat.one_ne_zero, and_self, and_true, true_and, List.take_zero, List.drop_succ_cons, List.drop_zero, List.take_succ_cons, List.replicate_one, Bool.and_self, Bool.and_true, List.drop_nil, List.take_nil, Nat.le_refl, Nat.zero_add, Nat.zero_mul, Nat.one_mul, Nat.mul_one]
    refine W.done ⟨(scan (l.drop (p + 1)) (p + 1), Q), ⟨_, _, rfl, rfl, lw, ?_, ?_⟩, ?_⟩
    · rw [← hq, ← hQ, List.append_assoc]
      congr 1
      show [(p : Int)] ++ rest6 l (scan (l.drop (p + 1)) (p + 1)) = _
      rw [← rest6_scan]
      rfl
    · intro p' h'
      have := (scan_lt _ _ _ h').2.1
      simp at this
      omega
    · simp only
      cases hs' : scan (l.drop (p + 1)) (p + 1) with
      | none => simp only; omega
      | some p' =>
        have := (scan_lt _ _ _ hs').1
        simp only; omega
end Go.Proofs.YtpbhldhmjmfigaaDoor
