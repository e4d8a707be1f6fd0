/- space: pure forms, the law's own helpers, SpaceTables. -/
import Derived.Test.YtpbhldhmjmfigaaDoorT10
import Derived.Test.YtpbhldhmjmfigaaDoorAm34
set_option linter.unusedSimpArgs false
set_option linter.unusedVariables false
set_option maxRecDepth 100000
namespace Go.Proofs.YtpbhldhmjmfigaaDoor
open Go.AM
attribute [local irreducible] U W

theorem take_fz (v : V) (l : List UInt8) (hv : IsBytes v l) : Fz Tryd.prog pol 11 [v] fun r => ∃ w, r = .tuple [w, .int .i64 (takeR l).2.1, .int .i64 (takeR l).2.2] ∧ IsBytes w (takeR l).1 := by
  refine Fz.of_cw ((take_cw v l hv [] WF.nil).mono ?_)
  rintro r H' ⟨w, rfl, ho⟩
  obtain ⟨w', h1, h2⟩ := ho.frz 9
  exact ⟨_, rfl, _, frz_tup (frzL_cons h1 (frzL_cons rfl (frzL_cons rfl rfl))), w', rfl, h2⟩
theorem give_fz (v : V) (l : List UInt8) (hv : IsBytes v l) (a : Int) : Fz Tryd.prog pol 10 [v, .int .i64 a] fun r => ∃ w, r = .tuple [w, .int .i64 (giveR l a).2] ∧ IsBytes w (giveR l a).1 := by
  refine Fz.of_cw ((give_cw v l hv a [] WF.nil).mono ?_)
  rintro r H' ⟨w, rfl, ho⟩
  obtain ⟨w', h1, h2⟩ := ho.frz 9
  exact ⟨_, rfl, _, frz_tup (frzL_cons h1 (frzL_cons rfl rfl)), w', rfl, h2⟩
theorem settle_fz (v : V) (l : List UInt8) (hv : IsBytes v l) : Fz Tryd.prog pol 12 [v] fun r => ∃ w, r = .tuple [w, .int .i64 (settleR l).2] ∧ IsBytes w (settleR l).1 := by
  refine Fz.of_cw ((settle_cw v l hv [] WF.nil).mono ?_)
  rintro r H' ⟨w, rfl, ho⟩
  obtain ⟨w', h1, h2⟩ := ho.frz 9
  exact ⟨_, rfl, _, frz_tup (frzL_cons h1 (frzL_cons rfl rfl)), w', rfl, h2⟩

/-- Bytes that one may write, or none. -/
def HoldsB (H : Heap) (w : V) (out : List UInt8) : Prop := (w = .nilslice ∧ out = []) ∨ ∃ f s c, w = .mslice f s 0 out.length c 1 ∧ f < H.length ∧ hget H f s = some (.cells (ofBytes out))
theorem HoldsB.sc {H : Heap} {w : V} {out : List UInt8} (h : HoldsB H w out) : sliceCells (hget H) 1 w = some (ofBytes out, out.length) := by
  rcases h with ⟨rfl, rfl⟩ | ⟨f, s, c, rfl, _, hg⟩
  · rfl
  · exact sc_own hg
theorem HoldsB.app {H : Heap} {w : V} {out : List UInt8} (h : HoldsB H w out) (G : Heap) : HoldsB (H ++ G) w out := by
  rcases h with h | ⟨f, s, c, h1, h2, h3⟩
  · exact .inl h
  · exact .inr ⟨f, s, c, h1, by rw [List.length_append]; omega, by rw [hget_old _ _ h2]; exact h3⟩
theorem HoldsB.keep {H H' : Heap} {w : V} {out : List UInt8} (h : HoldsB H w out) (hl : H'.length = H.length) (hk : ∀ f s, w.id? = some (f, s) → hget H' f s = hget H f s) : HoldsB H' w out := by
  rcases h with h | ⟨f, s, c, rfl, h2, h3⟩
  · exact .inl h
  · exact .inr ⟨f, s, c, rfl, by omega, by rw [hk f s rfl]; exact h3⟩

theorem spoil_cw (K : Heap) (w : V) (l : List UInt8) (h : HoldsB K w l) (hw : WF K) (hl : l.length ≤ 10000) :
    CW Tryd.prog pol 22 [w] K fun r K' => r = .ret (.tuple []) ∧ WF K' ∧ K'.length = K.length ∧ ∀ f s, w.id? ≠ some (f, s) → hget K' f s = hget K f s := by
  refine cw_of Tryd.func22 rfl ?_
  rcases h with ⟨rfl, rfl⟩ | ⟨f, s, c, rfl, hf, hg⟩
  · have len := fun g => ln_nil (P := Tryd.prog) (g := g) Tryd.underlying26
    have c1 : decide ((0 : Int) < 0) = false := rfl
    simp only [u_seq, u_region, u_block, w_op, evOp, us_val, us_call, us_panic, uc_ret, uc_pan, w_cond, ui_true, ui_false, w_opT, ust_val, ust_set, ust_call, uct_ret, w_guardT, ugt_tt, ugt_ff, ugt_tf, ugt_ft, u_draw, quietOp, w_guard, ug_tt, ug_ff, ug_tf, ug_ft, ug_no, ugt_no, nov, gd, w_loop, ul_some, u_ops_nil, u_skip, u_ret, u_exit, u_nil, u_code_ret, u_code_exit, u_code_panic, u_block_normal, u_block_ret, u_block_panic, u_block_exit, rho, putT, wr, b_add, b_sub, b_mul, b_eql, b_neq, b_lss, b_leq, b_gtr, b_geq, b_sadd, b_seql, b_sneq, oc_int, oc_bool, oc_str, oc_nilslice, oc_nilptr, oc_nilmap, oc_nilfunc, oc_nilface, bi_len, bi_max, bi_min, mx_nil, mx_one, frz_islice, frz_nilslice, frz_int, frz_bool, frz_str, List.getD_cons_zero, List.getD_cons_succ, List.set_cons_zero, List.set_cons_succ, List.map_cons, List.map_nil, Option.map_some, Option.map_none, Option.bind_some, Option.bind_none, List.length_nil, List.length_cons, List.nil_append, List.cons_append, List.append_nil, List.replicate_succ, List.replicate_zero, Nat.reduceAdd, Nat.reduceSub, Bool.false_eq_true, if_true, if_false, reduceIte, reduceCtorEq, List.getElem?_cons_zero, List.getElem?_cons_succ, List.getElem?_toArray, Tryd.ntmps22]
    refine W.ul ?_
    refine W.loopS (kt := [0, 2]) rfl (fun i : Nat => st22_1 .nilslice (.int .i64 0)) (fun i => K ++ [[]]) (fun i => True) (fun i => 0) ?_ 0 trivial rfl rfl
    intro i _
    simp only [st22_1]
    simp only [u_seq, u_region, u_block, w_op, evOp, us_val, us_call, us_panic, uc_ret, uc_pan, w_cond, ui_true, ui_false, w_opT, ust_val, ust_set, ust_call, uct_ret, w_guardT, ugt_tt, ugt_ff, ugt_tf, ugt_ft, u_draw, quietOp, w_guard, ug_tt, ug_ff, ug_tf, ug_ft, ug_no, ugt_no, nov, gd, w_loop, ul_some, u_ops_nil, u_skip, u_ret, u_exit, u_nil, u_code_ret, u_code_exit, u_code_panic, u_block_normal, u_block_ret, u_block_panic, u_block_exit, rho, putT, wr, b_add, b_sub, b_mul, b_eql, b_neq, b_lss, b_leq, b_gtr, b_geq, b_sadd, b_seql, b_sneq, oc_int, oc_bool, oc_str, oc_nilslice, oc_nilptr, oc_nilmap, oc_nilfunc, oc_nilface, bi_len, bi_max, bi_min, mx_nil, mx_one, frz_islice, frz_nilslice, frz_int, frz_bool, frz_str, List.getD_cons_zero, List.getD_cons_succ, List.set_cons_zero, List.set_cons_succ, List.map_cons, List.map_nil, Option.map_some, Option.map_none, Option.bind_some, Option.bind_none, List.length_nil, List.length_cons, List.nil_append, List.cons_append, List.append_nil, List.replicate_succ, List.replicate_zero, Nat.reduceAdd, Nat.reduceSub, Bool.false_eq_true, if_true, if_false, reduceIte, reduceCtorEq, List.getElem?_cons_zero, List.getElem?_cons_succ, List.getElem?_toArray, len, c1]
    refine W.done ?_
    simp only [u_seq, u_region, u_block, w_op, evOp, us_val, us_call, us_panic, uc_ret, uc_pan, w_cond, ui_true, ui_false, w_opT, ust_val, ust_set, ust_call, uct_ret, w_guardT, ugt_tt, ugt_ff, ugt_tf, ugt_ft, u_draw, quietOp, w_guard, ug_tt, ug_ff, ug_tf, ug_ft, ug_no, ugt_no, nov, gd, w_loop, ul_some, u_ops_nil, u_skip, u_ret, u_exit, u_nil, u_code_ret, u_code_exit, u_code_panic, u_block_normal, u_block_ret, u_block_panic, u_block_exit, rho, putT, wr, b_add, b_sub, b_mul, b_eql, b_neq, b_lss, b_leq, b_gtr, b_geq, b_sadd, b_seql, b_sneq, oc_int, oc_bool, oc_str, oc_nilslice, oc_nilptr, oc_nilmap, oc_nilfunc, oc_nilface, bi_len, bi_max, bi_min, mx_nil, mx_one, frz_islice, frz_nilslice, frz_int, frz_bool, frz_str, List.getD_cons_zero, List.getD_cons_succ, List.set_cons_zero, List.set_cons_succ, List.map_cons, List.map_nil, Option.map_some, Option.map_none, Option.bind_some, Option.bind_none, List.length_nil, List.length_cons, List.nil_append, List.cons_append, List.append_nil, List.replicate_succ, List.replicate_zero, Nat.reduceAdd, Nat.reduceSub, Bool.false_eq_true, if_true, if_false, reduceIte, reduceCtorEq, List.getElem?_cons_zero, List.getElem?_cons_succ, List.getElem?_toArray]
    refine W.done (End.normal (v := .tuple []) rfl ?_)
    rw [popF_drop rfl hw]
    exact ⟨rfl, hw, rfl, fun _ _ _ => rfl⟩
  · have len := fun g => len_m (P := Tryd.prog) Tryd.underlying26 (f := f) (s := s) (o := 0) (len := l.length) (esz := 1) (cap := c) g
    simp only [u_seq, u_region, u_block, w_op, evOp, us_val, us_call, us_panic, uc_ret, uc_pan, w_cond, ui_true, ui_false, w_opT, ust_val, ust_set, ust_call, uct_ret, w_guardT, ugt_tt, ugt_ff, ugt_tf, ugt_ft, u_draw, quietOp, w_guard, ug_tt, ug_ff, ug_tf, ug_ft, ug_no, ugt_no, nov, gd, w_loop, ul_some, u_ops_nil, u_skip, u_ret, u_exit, u_nil, u_code_ret, u_code_exit, u_code_panic, u_block_normal, u_block_ret, u_block_panic, u_block_exit, rho, putT, wr, b_add, b_sub, b_mul, b_eql, b_neq, b_lss, b_leq, b_gtr, b_geq, b_sadd, b_seql, b_sneq, oc_int, oc_bool, oc_str, oc_nilslice, oc_nilptr, oc_nilmap, oc_nilfunc, oc_nilface, bi_len, bi_max, bi_min, mx_nil, mx_one, frz_islice, frz_nilslice, frz_int, frz_bool, frz_str, List.getD_cons_zero, List.getD_cons_succ, List.set_cons_zero, List.set_cons_succ, List.map_cons, List.map_nil, Option.map_some, Option.map_none, Option.bind_some, Option.bind_none, List.length_nil, List.length_cons, List.nil_append, List.cons_append, List.append_nil, List.replicate_succ, List.replicate_zero, Nat.reduceAdd, Nat.reduceSub, Bool.false_eq_true, if_true, if_false, reduceIte, reduceCtorEq, List.getElem?_cons_zero, List.getElem?_cons_succ, List.getElem?_toArray, Tryd.ntmps22]
    refine W.ul ?_
    refine W.loop (fun (i : Nat) t H => maskT [0, 2] t 0 = st22_1 (.mslice f s 0 l.length c 1) (.int .i64 i) ∧ i ≤ l.length ∧ ∃ K1 m, H = K1 ++ [[]] ∧ K1.length = K.length ∧ WF K1 ∧ m.length = l.length ∧ hget K1 f s = some (.cells (ofBytes m)) ∧
      ∀ f' s', ¬ (f' = f ∧ s' = s) → hget K1 f' s' = hget K f' s') (fun i => l.length - i) ?_ 0 ⟨rfl, by omega, K, l, rfl, rfl, hw, rfl, hg, fun _ _ _ => rfl⟩
    rintro i t H ⟨ht, hi, K1, m, rfl, k1, k2, hm, hg1, hk⟩
    refine ⟨_, _, by rw [forget_keep (kt := [0, 2]) rfl, ht], ?_⟩
    simp only [st22_1]
    have hf1 : f < K1.length := by omega
    by_cases h : i < l.length
    · have c1 : decide ((i : Int) < l.length) = true := decide_eq_true (by omega)
      have at1 := at_m (P := Tryd.prog) Tryd.underlying26 sz5 (f := f) (s := s) (o := 0) (len := l.length) (cap := c) (k := .i64) (i := (i : Int)) (by omega) (by omega)
      have st : (0 + (i : Int).toNat * 1) = i := by omega
      rw [st] at at1
      have g1 : hget (K1 ++ [[]]) f s = some (.cells (ofBytes m)) := by rw [hget_old _ _ hf1, hg1]
      have s1 : ∀ o, hset (K1 ++ [[]]) f s o = hset K1 f s o ++ [[]] := fun o => by rw [hset_old _ _ hf1]
      have hmi : i < m.length := by omega
      have g0 : (ofBytes m)[i]? = some (.int .u8 m[i].toNat) := gb0 hmi
      have ad : (IntKind.u8).wrap ((m[i].toNat : Int) + 1) = ((m[i] + 1 : UInt8).toNat : Int) := u8_add m[i] 1
      have sp := splice_byte m i (m[i] + 1) hmi
      have c2 : (i + 1 ≤ (ofBytes m).length) = True := eq_true (by rw [ofBytes_length]; omega)
      have w1 := wrap_add1 (i := i) (by omega)
      simp only [u_seq, u_region, u_block, w_op, evOp, us_val, us_call, us_panic, uc_ret, uc_pan, w_cond, ui_true, ui_false, w_opT, ust_val, ust_set, ust_call, uct_ret, w_guardT, ugt_tt, ugt_ff, ugt_tf, ugt_ft, u_draw, quietOp, w_guard, ug_tt, ug_ff, ug_tf, ug_ft, ug_no, ugt_no, nov, gd, w_loop, ul_some, u_ops_nil, u_skip, u_ret, u_exit, u_nil, u_code_ret, u_code_exit, u_code_panic, u_block_normal, u_block_ret, u_block_panic, u_block_exit, rho, putT, wr, b_add, b_sub, b_mul, b_eql, b_neq, b_lss, b_leq, b_gtr, b_geq, b_sadd, b_seql, b_sneq, oc_int, oc_bool, oc_str, oc_nilslice, oc_nilptr, oc_nilmap, oc_nilfunc, oc_nilface, bi_len, bi_max, bi_min, mx_nil, mx_one, frz_islice, frz_nilslice, frz_int, frz_bool, frz_str, List.getD_cons_zero, List.getD_cons_succ, List.set_cons_zero, List.set_cons_succ, List.map_cons, List.map_nil, Option.map_some, Option.map_none, Option.bind_some, Option.bind_none, List.length_nil, List.length_cons, List.nil_append, List.cons_append, List.append_nil, List.replicate_succ, List.replicate_zero, Nat.reduceAdd, Nat.reduceSub, Bool.false_eq_true, if_true, if_false, reduceIte, reduceCtorEq, List.getElem?_cons_zero, List.getElem?_cons_succ, List.getElem?_toArray, len, c1, at1, g1, rd5, g0, ad, sz5, sp, c2, s1, w1, zerosN, fillV, cells_int, cells_bool, cells_str, cells_nilptr, cells_ptr, cells_iptr, cells_nilslice, cells_islice, cells_gslice, cells_mslice, cells_nilmap, cells_map, cells_func, cells_nilfunc, cells_nilface, cells_face, pureL, V.pure, Nat.reduceMul, Nat.reduceLeDiff, Nat.one_ne_zero, and_self, and_true, true_and, List.take_zero, List.drop_succ_cons, List.drop_zero, List.take_succ_cons, List.replicate_one, Bool.and_self, Bool.and_true, List.drop_nil, List.take_nil, Nat.le_refl, Nat.zero_add, Nat.zero_mul, Nat.one_mul, Nat.mul_one]
      exact W.done ⟨i + 1, ⟨rfl, by omega, hset K1 f s (.cells (ofBytes (m.set i (m[i] + 1)))), m.set i (m[i] + 1), rfl, by rw [hset_length, k1], k2.hset (refsL_ofBytes _ _), by rw [List.length_set]; exact hm,
        hget_hset_self hf1, fun f' s' hne => by rw [hget_hset_else hf1 hne, hk f' s' hne]⟩, by omega⟩
    · have c1 : decide ((i : Int) < l.length) = false := decide_eq_false (by omega)
      simp only [u_seq, u_region, u_block, w_op, evOp, us_val, us_call, us_panic, uc_ret, uc_pan, w_cond, ui_true, ui_false, w_opT, ust_val, ust_set, ust_call, uct_ret, w_guardT, ugt_tt, ugt_ff, ugt_tf, ugt_ft, u_draw, quietOp, w_guard, ug_tt, ug_ff, ug_tf, ug_ft, ug_no, ugt_no, nov, gd, w_loop, ul_some, u_ops_nil, u_skip, u_ret, u_exit, u_nil, u_code_ret, u_code_exit, u_code_panic, u_block_normal, u_block_ret, u_block_panic, u_block_exit, rho, putT, wr, b_add, b_sub, b_mul, b_eql, b_neq, b_lss, b_leq, b_gtr, b_geq, b_sadd, b_seql, b_sneq, oc_int, oc_bool, oc_str, oc_nilslice, oc_nilptr, oc_nilmap, oc_nilfunc, oc_nilface, bi_len, bi_max, bi_min, mx_nil, mx_one, frz_islice, frz_nilslice, frz_int, frz_bool, frz_str, List.getD_cons_zero, List.getD_cons_succ, List.set_cons_zero, List.set_cons_succ, List.map_cons, List.map_nil, Option.map_some, Option.map_none, Option.bind_some, Option.bind_none, List.length_nil, List.length_cons, List.nil_append, List.cons_append, List.append_nil, List.replicate_succ, List.replicate_zero, Nat.reduceAdd, Nat.reduceSub, Bool.false_eq_true, if_true, if_false, reduceIte, reduceCtorEq, List.getElem?_cons_zero, List.getElem?_cons_succ, List.getElem?_toArray, len, c1]
      refine W.done ?_
      simp only [u_seq, u_region, u_block, w_op, evOp, us_val, us_call, us_panic, uc_ret, uc_pan, w_cond, ui_true, ui_false, w_opT, ust_val, ust_set, ust_call, uct_ret, w_guardT, ugt_tt, ugt_ff, ugt_tf, ugt_ft, u_draw, quietOp, w_guard, ug_tt, ug_ff, ug_tf, ug_ft, ug_no, ugt_no, nov, gd, w_loop, ul_some, u_ops_nil, u_skip, u_ret, u_exit, u_nil, u_code_ret, u_code_exit, u_code_panic, u_block_normal, u_block_ret, u_block_panic, u_block_exit, rho, putT, wr, b_add, b_sub, b_mul, b_eql, b_neq, b_lss, b_leq, b_gtr, b_geq, b_sadd, b_seql, b_sneq, oc_int, oc_bool, oc_str, oc_nilslice, oc_nilptr, oc_nilmap, oc_nilfunc, oc_nilface, bi_len, bi_max, bi_min, mx_nil, mx_one, frz_islice, frz_nilslice, frz_int, frz_bool, frz_str, List.getD_cons_zero, List.getD_cons_succ, List.set_cons_zero, List.set_cons_succ, List.map_cons, List.map_nil, Option.map_some, Option.map_none, Option.bind_some, Option.bind_none, List.length_nil, List.length_cons, List.nil_append, List.cons_append, List.append_nil, List.replicate_succ, List.replicate_zero, Nat.reduceAdd, Nat.reduceSub, Bool.false_eq_true, if_true, if_false, reduceIte, reduceCtorEq, List.getElem?_cons_zero, List.getElem?_cons_succ, List.getElem?_toArray]
      refine W.done (End.normal (v := .tuple []) rfl ?_)
      have := popF_drop (H := K1) (G := [[]]) (v := .tuple []) rfl k2
      rw [k1] at this
      rw [this]
      refine ⟨rfl, k2, k1, fun f' s' hne => hk f' s' fun e => hne ?_⟩
      rw [e.1, e.2]; rfl

theorem tables_law : ∀ xs, ArgsRead Tryd.prog [26, 3] xs → ∃ H', callW Tryd.prog pol 4 xs [] = some (.ret (.bool true), H') := by
  rintro xs ⟨n1, y1, r1, h1, ⟨n2, y2, r2, h2, rfl, rfl⟩, rfl⟩
  obtain ⟨l, hv⟩ := arg_bytes Tryd.underlying26 Tryd.underlying5 h1
  obtain ⟨a, rfl, ha⟩ := arg_int Tryd.underlying3 h2
  have key : CW Tryd.prog pol 4 [y1, .int .i64 a] [] fun r H' => r = .ret (.bool true) := by
    refine cw_of Tryd.func4 rfl ?_
    have len := hv.len Tryd.underlying26
    simp only [u_seq, u_region, u_block, w_op, evOp, us_val, us_call, us_panic, uc_ret, uc_pan, w_cond, ui_true, ui_false, w_opT, ust_val, ust_set, ust_call, uct_ret, w_guardT, ugt_tt, ugt_ff, ugt_tf, ugt_ft, u_draw, quietOp, w_guard, ug_tt, ug_ff, ug_tf, ug_ft, ug_no, ugt_no, nov, gd, w_loop, ul_some, u_ops_nil, u_skip, u_ret, u_exit, u_nil, u_code_ret, u_code_exit, u_code_panic, u_block_normal, u_block_ret, u_block_panic, u_block_exit, rho, putT, wr, b_add, b_sub, b_mul, b_eql, b_neq, b_lss, b_leq, b_gtr, b_geq, b_sadd, b_seql, b_sneq, oc_int, oc_bool, oc_str, oc_nilslice, oc_nilptr, oc_nilmap, oc_nilfunc, oc_nilface, bi_len, bi_max, bi_min, mx_nil, mx_one, frz_islice, frz_nilslice, frz_int, frz_bool, frz_str, List.getD_cons_zero, List.getD_cons_succ, List.set_cons_zero, List.set_cons_succ, List.map_cons, List.map_nil, Option.map_some, Option.map_none, Option.bind_some, Option.bind_none, List.length_nil, List.length_cons, List.nil_append, List.cons_append, List.append_nil, List.replicate_succ, List.replicate_zero, Nat.reduceAdd, Nat.reduceSub, Bool.false_eq_true, if_true, if_false, reduceIte, reduceCtorEq, List.getElem?_cons_zero, List.getElem?_cons_succ, List.getElem?_toArray, Tryd.ntmps4, len]
    refine W.ite (fun g1 => ?_) (fun g1 => ?_)
    · simp only [u_seq, u_region, u_block, w_op, evOp, us_val, us_call, us_panic, uc_ret, uc_pan, w_cond, ui_true, ui_false, w_opT, ust_val, ust_set, ust_call, uct_ret, w_guardT, ugt_tt, ugt_ff, ugt_tf, ugt_ft, u_draw, quietOp, w_guard, ug_tt, ug_ff, ug_tf, ug_ft, ug_no, ugt_no, nov, gd, w_loop, ul_some, u_ops_nil, u_skip, u_ret, u_exit, u_nil, u_code_ret, u_code_exit, u_code_panic, u_block_normal, u_block_ret, u_block_panic, u_block_exit, rho, putT, wr, b_add, b_sub, b_mul, b_eql, b_neq, b_lss, b_leq, b_gtr, b_geq, b_sadd, b_seql, b_sneq, oc_int, oc_bool, oc_str, oc_nilslice, oc_nilptr, oc_nilmap, oc_nilfunc, oc_nilface, bi_len, bi_max, bi_min, mx_nil, mx_one, frz_islice, frz_nilslice, frz_int, frz_bool, frz_str, List.getD_cons_zero, List.getD_cons_succ, List.set_cons_zero, List.set_cons_succ, List.map_cons, List.map_nil, Option.map_some, Option.map_none, Option.bind_some, Option.bind_none, List.length_nil, List.length_cons, List.nil_append, List.cons_append, List.append_nil, List.replicate_succ, List.replicate_zero, Nat.reduceAdd, Nat.reduceSub, Bool.false_eq_true, if_true, if_false, reduceIte, reduceCtorEq, List.getElem?_cons_zero, List.getElem?_cons_succ, List.getElem?_toArray]
      exact W.done (End.ret (v := .bool true) rfl rfl)
    have hl : l.length ≤ 10000 := by have := of_decide_eq_false g1; omega
    -- what is appended to nothing
    obtain ⟨w5, F, w, hap, hF, hfz, hw, hsc⟩ : ∃ w5 F w, (appendV Tryd.prog (pol.mt 4) 0 (hget [[]]) (some 28) 26 26 .nilslice y1 = some (.val w5 none) ∧ F = [] ∨ ∃ o,
        appendV Tryd.prog (pol.mt 4) 0 (hget [[]]) (some 28) 26 26 .nilslice y1 = some (.val w5 (some (0, 28, o))) ∧ F = [(28, o)]) ∧ WF [F] ∧ frz (fun _ _ => none) depth w5 = some w ∧ IsBytes w l ∧ ∀ g, sliceCells g 1 w5 = some (ofBytes l, l.length) := by
      cases hl0 : l with
      | nil =>
        subst hl0
        refine ⟨.nilslice, [], .nilslice, .inl ⟨?_, rfl⟩, rfl, rfl, IsBytes.nil, fun g => rfl⟩
        rw [app_none Tryd.underlying26 sz5 by8 zc5 rfl Tryd.underlying26 rfl (IsSl.sc hv)]
      | cons b l' =>
        rw [← hl0]
        have hp : 0 < l.length := by rw [hl0]; simp
        refine ⟨.gslice 0 28 (ofBytes l) l.length 1, _, .islice (ofBytes l) l.length false, .inr ⟨.grow l.length, ?_, rfl⟩, rfl, rfl, IsBytes.mk l false, fun g => rfl⟩
        rw [app_nil Tryd.underlying26 sz5 by8 zc5 rfl Tryd.underlying26 (IsSl.sc hv) hp (roomy_of (by omega) (by omega)), grown_im rfl (pureL_ofBytes l) rfl]
    have fw5 : frzL (frz (fun _ _ => none) depth) [w5] = some [w] := frzL_cons hfz rfl
    have fw5a : frzL (frz (fun _ _ => none) depth) [w5, .int .i64 a] = some [w, .int .i64 a] := frzL_cons hfz (frzL_cons rfl rfl)
    have fy : frzL (frz (fun _ _ => none) depth) [y1] = some [y1] := frzL_cons (hv.frz _) rfl
    have fya : frzL (frz (fun _ _ => none) depth) [y1, .int .i64 a] = some [y1, .int .i64 a] := frzL_cons (hv.frz _) (frzL_cons rfl rfl)
    obtain ⟨_, ⟨a1, rfl, a2⟩, p1⟩ := (free_fz w l hw).op' (by rfl) fw5
    obtain ⟨_, ⟨b1, rfl, b2⟩, p2⟩ := (reffree_fz y1 l hv).op (by rfl) fy
    obtain ⟨_, ⟨d1, rfl, d2⟩, p4⟩ := (reftake_fz y1 l hv).op (by rfl) fy
    obtain ⟨_, ⟨f1, rfl, f2⟩, p6⟩ := (refgive_fz y1 l hv a).op (by rfl) fya
    obtain ⟨_, ⟨h1, rfl, h2⟩, p8⟩ := (refsettle_fz y1 l hv).op (by rfl) fy
    have lf : (freeR l).1.length ≤ 100000 := by
      unfold freeR
      split
      · have := freesFrom_le l 0; simp only; omega
      · simp
    obtain ⟨_, rfl, p9⟩ := (same_fz a1 b1 _ _ a2 b2 lf).op (by rfl) (frzL_cons (a2.frz _) (frzL_cons (b2.frz _) rfl))
    obtain ⟨_, rfl, p10⟩ := (check_fz w l hw).op' (by rfl) fw5
    obtain ⟨_, rfl, p11⟩ := (refcheck_fz y1 l hv).op (by rfl) fy
    obtain ⟨n1, q1, p12⟩ := new_fz.op (by rfl) rfl
    obtain ⟨n2, q2, p13⟩ := refnew_fz.op (by rfl) rfl
    -- the three that answer new memory
    obtain ⟨_, K1, t1, c1, rfl, o1⟩ := take_cw w l hw [F] hF
    obtain ⟨G1, hK1, wf1, s1⟩ := o1
    obtain ⟨_, K2, t2, c2, rfl, o2⟩ := give_cw w l hw a _ wf1
    obtain ⟨G2, hK2, wf2, s2⟩ := o2
    obtain ⟨_, K3, t3, c3, rfl, o3⟩ := settle_cw w l hw _ wf2
    obtain ⟨G3, hK3, wf3, s3⟩ := o3
    have own1 : HoldsB K1 c1 (takeR l).1 ∧ ∀ f s, c1.id? = some (f, s) → f < K1.length := by
      rcases s1 with ⟨rfl, h⟩ | ⟨f, s, c, rfl, _, h2, h3⟩
      · exact ⟨.inl ⟨rfl, h⟩, fun _ _ e => by cases e⟩
      · exact ⟨.inr ⟨f, s, c, rfl, h2, h3⟩, fun _ _ e => by cases e; exact h2⟩
    have own2 : HoldsB K2 c2 (giveR l a).1 ∧ ∀ f s, c2.id? = some (f, s) → K1.length ≤ f ∧ f < K2.length := by
      rcases s2 with ⟨rfl, h⟩ | ⟨f, s, c, rfl, h1, h2, h3⟩
      · exact ⟨.inl ⟨rfl, h⟩, fun _ _ e => by cases e⟩
      · exact ⟨.inr ⟨f, s, c, rfl, h2, h3⟩, fun _ _ e => by cases e; exact ⟨h1, h2⟩⟩
    have own3 : HoldsB K3 c3 (settleR l).1 ∧ ∀ f s, c3.id? = some (f, s) → K2.length ≤ f := by
      rcases s3 with ⟨rfl, h⟩ | ⟨f, s, c, rfl, h1, h2, h3⟩
      · exact ⟨.inl ⟨rfl, h⟩, fun _ _ e => by cases e⟩
      · exact ⟨.inr ⟨f, s, c, rfl, h2, h3⟩, fun _ _ e => by cases e; exact h1⟩
    have hus : ∀ d k k' t, US Tryd.prog pol (callW Tryd.prog pol) loopW 4 0 (appendV Tryd.prog (pol.mt 4) 0 (hget [[]]) (some 28) 26 26 .nilslice y1) d k k' t [[]] =
        U Tryd.prog pol (callW Tryd.prog pol) loopW 4 0 k .normal (putT t d w5) [F] := by
      intro d k k' t
      rcases hap with ⟨h, rfl⟩ | ⟨o, h, rfl⟩ <;> rw [h] <;> rfl
    have e1 : ∀ d, _ := fun d => p1 4 0 d [F] rfl
    have e2 : ∀ d, _ := fun d => p2 4 0 d [F] rfl
    have e3 : ∀ d, _ := fun d => callOp_thin (fn := 4) (fr := 0) (d := d) (pol := pol) rfl rfl rfl fw5 t1
    have e4 : ∀ d, _ := fun d => p4 4 0 d K1 rfl
    have e5 : ∀ d, _ := fun d => callOp_thin (fn := 4) (fr := 0) (d := d) (pol := pol) rfl rfl rfl fw5a t2
    have e6 : ∀ d, _ := fun d => p6 4 0 d K2 rfl
    have e7 : ∀ d, _ := fun d => callOp_thin (fn := 4) (fr := 0) (d := d) (pol := pol) rfl rfl rfl fw5 t3
    have e8 : ∀ d, _ := fun d => p8 4 0 d K3 rfl
    have e9 : ∀ d, _ := fun d => p9 4 0 d K3 rfl
    have e10 : ∀ d, _ := fun d => p10 4 0 d K3 rfl
    have e11 : ∀ d, _ := fun d => p11 4 0 d K3 rfl
    have e12 : ∀ d, _ := fun d => p12 4 0 d K3 rfl
    have e13 : ∀ d, _ := fun d => p13 4 0 d K3 rfl
    have cv : ∀ {x : V} {m : List UInt8} {n : Nat} {g : Get}, sliceCells g 1 x = some (ofBytes m, n) → convertV Tryd.prog g 26 9 x = some (.val (.str m) none) := fun h => conv_bytes Tryd.underlying26 Tryd.underlying5 Tryd.underlying9 h
    have h1K : HoldsB K3 c1 (takeR l).1 := by rw [hK3, hK2]; exact (own1.1.app G2).app G3
    have h2K : HoldsB K3 c2 (giveR l a).1 := by rw [hK3]; exact own2.1.app G3
    have h3K : HoldsB K3 c3 (settleR l).1 := own3.1
    have v1 := cv h1K.sc
    have v2 := cv h2K.sc
    have v3 := cv h3K.sc
    have v4 := fun g => cv (IsSl.sc (g := g) d2)
    have v5 := fun g => cv (IsSl.sc (g := g) f2)
    have v6 := fun g => cv (IsSl.sc (g := g) h2)
    have v7 := fun g => cv (IsSl.sc (g := g) q1)
    have v8 := fun g => cv (IsSl.sc (g := g) q2)
    have v9 := fun g => cv (hsc g)
    have v10 := fun g => cv (IsSl.sc (g := g) hv)
    have lt : (takeR l).1.length ≤ 10000 := by
      unfold takeR
      split
      · split <;> simp; omega
      · simp
    have lg : (giveR l a).1.length ≤ 10000 := by
      unfold giveR
      split
      · split
        · simp
        · split <;> simp; omega
      · simp
    have ls : (settleR l).1.length ≤ 10000 := by
      unfold settleR
      split <;> simp [settled_len]; omega
    obtain ⟨_, K4, t4, rfl, wf4, l4, k4⟩ := spoil_cw K3 c1 _ h1K wf3 lt
    have h2K4 := h2K.keep l4 fun f s e => k4 f s fun e' => by have := own1.2 f s e'; have := (own2.2 f s e).1; omega
    have h3K4 := h3K.keep l4 fun f s e => k4 f s fun e' => by have := own1.2 f s e'; have := own3.2 f s e; have : K1.length ≤ K2.length := by rw [hK2, List.length_append]; omega
                                                              omega
    obtain ⟨_, K5, t5, rfl, wf5, l5, k5⟩ := spoil_cw K4 c2 _ h2K4 wf4 lg
    have h3K5 := h3K4.keep l5 fun f s e => k5 f s fun e' => by have := (own2.2 f s e').2; have := own3.2 f s e; omega
    obtain ⟨_, K6, t6, rfl, wf6, l6, k6⟩ := spoil_cw K5 c3 _ h3K5 wf5 ls
    have e14 : ∀ d, _ := fun d => callOp_in (fn := 4) (fr := 0) (d := d) (pol := pol) rfl rfl rfl t4
    have e15 : ∀ d, _ := fun d => callOp_in (fn := 4) (fr := 0) (d := d) (pol := pol) rfl rfl rfl t5
    have e16 : ∀ d, _ := fun d => callOp_in (fn := 4) (fr := 0) (d := d) (pol := pol) rfl rfl rfl t6
    generalize (takeR l).1 = x1 at *
    generalize (takeR l).2.1 = x2 at *
    generalize (takeR l).2.2 = x3 at *
    generalize (giveR l a).1 = x4 at *
    generalize (giveR l a).2 = x5 at *
    generalize (settleR l).1 = x6 at *
    generalize (settleR l).2 = x7 at *
    generalize (freeR l).1 = x8 at *
    generalize (freeR l).2 = x9 at *
    generalize (if okTab l = true then (0 : Int) else 8) = x10 at *
    generalize newTab = x11 at *
    simp only [u_seq, u_region, u_block, w_op, evOp, us_val, us_call, us_panic, uc_ret, uc_pan, w_cond, ui_true, ui_false, w_opT, ust_val, ust_set, ust_call, uct_ret, w_guardT, ugt_tt, ugt_ff, ugt_tf, ugt_ft, u_draw, quietOp, w_guard, ug_tt, ug_ff, ug_tf, ug_ft, ug_no, ugt_no, nov, gd, w_loop, ul_some, u_ops_nil, u_skip, u_ret, u_exit, u_nil, u_code_ret, u_code_exit, u_code_panic, u_block_normal, u_block_ret, u_block_panic, u_block_exit, rho, putT, wr, b_add, b_sub, b_mul, b_eql, b_neq, b_lss, b_leq, b_gtr, b_geq, b_sadd, b_seql, b_sneq, oc_int, oc_bool, oc_str, oc_nilslice, oc_nilptr, oc_nilmap, oc_nilfunc, oc_nilface, bi_len, bi_max, bi_min, mx_nil, mx_one, frz_islice, frz_nilslice, frz_int, frz_bool, frz_str, List.getD_cons_zero, List.getD_cons_succ, List.set_cons_zero, List.set_cons_succ, List.map_cons, List.map_nil, Option.map_some, Option.map_none, Option.bind_some, Option.bind_none, List.length_nil, List.length_cons, List.nil_append, List.cons_append, List.append_nil, List.replicate_succ, List.replicate_zero, Nat.reduceAdd, Nat.reduceSub, Bool.false_eq_true, if_true, if_false, reduceIte, reduceCtorEq, List.getElem?_cons_zero, List.getElem?_cons_succ, List.getElem?_toArray, g1, bi_append, hus, e1, e2, e3, e4, e5, e6, e7, e8, e9, beq_self_eq_true, bne_self_eq_false, Bool.not_true, Bool.not_false, unV, v1, v2, v3, v4, v5, v6, e10, e11, e12, e13, v7, v8]
    refine W.opsK ?_ ?_
    · kernel_rfl
    simp only [u_seq, u_region, u_block, w_op, evOp, us_val, us_call, us_panic, uc_ret, uc_pan, w_cond, ui_true, ui_false, w_opT, ust_val, ust_set, ust_call, uct_ret, w_guardT, ugt_tt, ugt_ff, ugt_tf, ugt_ft, u_draw, quietOp, w_guard, ug_tt, ug_ff, ug_tf, ug_ft, ug_no, ugt_no, nov, gd, w_loop, ul_some, u_ops_nil, u_skip, u_ret, u_exit, u_nil, u_code_ret, u_code_exit, u_code_panic, u_block_normal, u_block_ret, u_block_panic, u_block_exit, rho, putT, wr, b_add, b_sub, b_mul, b_eql, b_neq, b_lss, b_leq, b_gtr, b_geq, b_sadd, b_seql, b_sneq, oc_int, oc_bool, oc_str, oc_nilslice, oc_nilptr, oc_nilmap, oc_nilfunc, oc_nilface, bi_len, bi_max, bi_min, mx_nil, mx_one, frz_islice, frz_nilslice, frz_int, frz_bool, frz_str, List.getD_cons_zero, List.getD_cons_succ, List.set_cons_zero, List.set_cons_succ, List.map_cons, List.map_nil, Option.map_some, Option.map_none, Option.bind_some, Option.bind_none, List.length_nil, List.length_cons, List.nil_append, List.cons_append, List.append_nil, List.replicate_succ, List.replicate_zero, Nat.reduceAdd, Nat.reduceSub, Bool.false_eq_true, if_true, if_false, reduceIte, reduceCtorEq, List.getElem?_cons_zero, List.getElem?_cons_succ, List.getElem?_toArray, e14, e15, e16, v9, v10, beq_self_eq_true]
    exact W.done (End.ret (v := .bool true) rfl rfl)
  obtain ⟨r, H', h3, rfl⟩ := key
  exact ⟨H', h3⟩
end Go.Proofs.YtpbhldhmjmfigaaDoor
