/- space: SpaceOrder. -/
import Derived.Test.YtpbhldhmjmfigaaDoorT13
set_option linter.unusedSimpArgs false
set_option linter.unusedVariables false
set_option maxRecDepth 100000
namespace Go.Proofs.YtpbhldhmjmfigaaDoor
open Go.AM
attribute [local irreducible] U W

theorem frees_ge : ∀ (l : List UInt8) (a : Nat), ∀ x ∈ freesFrom l a, (a : Int) ≤ x
  | l, a, x, h => by
    obtain ⟨j, rfl, _⟩ := freesFrom_mem l a x h
    omega
theorem frees_rise : ∀ (l : List UInt8) (a : Nat), (freesFrom l a).Pairwise (· < ·)
  | [], a => by simp [freesFrom]
  | b :: r, a => by
    simp only [freesFrom]
    split
    · refine List.pairwise_cons.2 ⟨fun x hx => ?_, frees_rise r (a + 1)⟩
      have := frees_ge r (a + 1) x hx
      omega
    · exact frees_rise r (a + 1)

/-- To take and to give up may change places. -/
theorem order_swap {l : List UInt8} {a : Int} {p : Nat} (hk : okTab l = true) (ht : takeR l = (l.set p 1, (p : Int), 0)) (hp : 12 ≤ p) (h0 : l[p]? = some 0) (hm : ∀ j, j < p → l[j]? ≠ some 0) (hk1 : okTab (l.set p 1) = true) :
    ((giveR l a).2 ≠ 0 ∧ ((giveR (l.set p 1) a).2 ≠ 0 ∨ ((giveR (l.set p 1) a).2 = 0 ∧ a = p))) ∨
    (∃ i : Nat, a = i ∧ giveR l a = (l.set i 2, 0) ∧ giveR (l.set p 1) a = ((l.set p 1).set i 2, 0) ∧ takeR (l.set i 2) = ((l.set i 2).set p 1, (p : Int), 0) ∧ (l.set i 2).set p 1 = (l.set p 1).set i 2) := by
  by_cases hg : (giveR l a).2 = 0
  · right
    obtain ⟨i, rfl, h1, h2, h3, h4, h5⟩ := give_some hk hg
    have hne : i ≠ p := fun e => by rw [e, h0] at h3; cases h3
    have h6 : (l.set p 1)[i]? = some 1 := by rw [List.getElem?_set, if_neg (by omega)]; exact h3
    refine ⟨i, rfl, h4, giveR_of hk1 h1 h2 h6, ?_, List.set_comm _ _ hne⟩
    rw [takeR_eq h5, scan_eq (l.set i 2) p]
    · rw [List.getElem?_set, if_neg hne]; exact h0
    · intro j hj
      rw [List.getElem?_set]
      split
      · split <;> simp
      · exact hm j hj
  · left
    refine ⟨hg, ?_⟩
    by_cases hi : (giveR (l.set p 1) a).2 = 0
    · right
      refine ⟨hi, ?_⟩
      obtain ⟨i, rfl, h1, h2, h3, _, _⟩ := give_some hk1 hi
      by_cases e : i = p
      · rw [e]
      · exfalso
        rw [List.getElem?_set, if_neg (by omega)] at h3
        exact hg (by rw [giveR_of hk h1 h2 h3])
    · exact .inl hi

set_option maxHeartbeats 4000000 in
theorem order_law : ∀ xs, ArgsRead Tryd.prog [26, 3] xs → ∃ H', callW Tryd.prog pol 7 xs [] = some (.ret (.bool true), H') := by
  rintro xs ⟨n1, y1, r1, h1, ⟨n2, y2, r2, h2, rfl, rfl⟩, rfl⟩
  obtain ⟨l, hv⟩ := arg_bytes Tryd.underlying26 Tryd.underlying5 h1
  obtain ⟨a, rfl, ha⟩ := arg_int Tryd.underlying3 h2
  have key : CW Tryd.prog pol 7 [y1, .int .i64 a] [] fun r H' => r = .ret (.bool true) := by
    refine cw_of Tryd.func7 rfl ?_
    have len := hv.len Tryd.underlying26
    obtain ⟨_, rfl, p1⟩ := alive_fz.op (by rfl) rfl
    have e1 : ∀ d, _ := fun d => p1 7 0 d [[]] rfl
    simp only [u_seq, u_region, u_block, w_op, evOp, us_val, us_call, us_panic, uc_ret, uc_pan, w_cond, ui_true, ui_false, w_opT, ust_val, ust_set, ust_call, uct_ret, w_guardT, ugt_tt, ugt_ff, ugt_tf, ugt_ft, u_draw, quietOp, w_guard, ug_tt, ug_ff, ug_tf, ug_ft, ug_no, ugt_no, nov, gd, w_loop, ul_some, u_ops_nil, u_skip, u_ret, u_exit, u_nil, u_code_ret, u_code_exit, u_code_panic, u_block_normal, u_block_ret, u_block_panic, u_block_exit, rho, putT, wr, b_add, b_sub, b_mul, b_eql, b_neq, b_lss, b_leq, b_gtr, b_geq, b_sadd, b_seql, b_sneq, oc_int, oc_bool, oc_str, oc_nilslice, oc_nilptr, oc_nilmap, oc_nilfunc, oc_nilface, bi_len, bi_max, bi_min, mx_nil, mx_one, frz_islice, frz_nilslice, frz_int, frz_bool, frz_str, List.getD_cons_zero, List.getD_cons_succ, List.set_cons_zero, List.set_cons_succ, List.map_cons, List.map_nil, Option.map_some, Option.map_none, Option.bind_some, Option.bind_none, List.length_nil, List.length_cons, List.nil_append, List.cons_append, List.append_nil, List.replicate_succ, List.replicate_zero, Nat.reduceAdd, Nat.reduceSub, Bool.false_eq_true, if_true, if_false, reduceIte, reduceCtorEq, List.getElem?_cons_zero, List.getElem?_cons_succ, List.getElem?_toArray, Tryd.ntmps7, len, e1]
    refine W.guardF (fun g1 => ?_) (fun g1 => ?_)
    rotate_left
    · simp only [u_seq, u_region, u_block, w_op, evOp, us_val, us_call, us_panic, uc_ret, uc_pan, w_cond, ui_true, ui_false, w_opT, ust_val, ust_set, ust_call, uct_ret, w_guardT, ugt_tt, ugt_ff, ugt_tf, ugt_ft, u_draw, quietOp, w_guard, ug_tt, ug_ff, ug_tf, ug_ft, ug_no, ugt_no, nov, gd, w_loop, ul_some, u_ops_nil, u_skip, u_ret, u_exit, u_nil, u_code_ret, u_code_exit, u_code_panic, u_block_normal, u_block_ret, u_block_panic, u_block_exit, rho, putT, wr, b_add, b_sub, b_mul, b_eql, b_neq, b_lss, b_leq, b_gtr, b_geq, b_sadd, b_seql, b_sneq, oc_int, oc_bool, oc_str, oc_nilslice, oc_nilptr, oc_nilmap, oc_nilfunc, oc_nilface, bi_len, bi_max, bi_min, mx_nil, mx_one, frz_islice, frz_nilslice, frz_int, frz_bool, frz_str, List.getD_cons_zero, List.getD_cons_succ, List.set_cons_zero, List.set_cons_succ, List.map_cons, List.map_nil, Option.map_some, Option.map_none, Option.bind_some, Option.bind_none, List.length_nil, List.length_cons, List.nil_append, List.cons_append, List.append_nil, List.replicate_succ, List.replicate_zero, Nat.reduceAdd, Nat.reduceSub, Bool.false_eq_true, if_true, if_false, reduceIte, reduceCtorEq, List.getElem?_cons_zero, List.getElem?_cons_succ, List.getElem?_toArray, g1]
      exact W.done (End.ret (v := .bool true) rfl rfl)
    have fy : frzL (frz (fun _ _ => none) depth) [y1] = some [y1] := frzL_cons (hv.frz _) rfl
    have fya : frzL (frz (fun _ _ => none) depth) [y1, .int .i64 a] = some [y1, .int .i64 a] := frzL_cons (hv.frz _) (frzL_cons rfl rfl)
    obtain ⟨_, rfl, p2⟩ := (check_fz y1 l hv).op (by rfl) fy
    have e2 : ∀ d, _ := fun d => p2 7 0 d [[]] rfl
    cases hk : okTab l with
    | false =>
      rw [hk] at e2
      have c1 : ((8 : Int) != 0) = true := rfl
      simp only [u_seq, u_region, u_block, w_op, evOp, us_val, us_call, us_panic, uc_ret, uc_pan, w_cond, ui_true, ui_false, w_opT, ust_val, ust_set, ust_call, uct_ret, w_guardT, ugt_tt, ugt_ff, ugt_tf, ugt_ft, u_draw, quietOp, w_guard, ug_tt, ug_ff, ug_tf, ug_ft, ug_no, ugt_no, nov, gd, w_loop, ul_some, u_ops_nil, u_skip, u_ret, u_exit, u_nil, u_code_ret, u_code_exit, u_code_panic, u_block_normal, u_block_ret, u_block_panic, u_block_exit, rho, putT, wr, b_add, b_sub, b_mul, b_eql, b_neq, b_lss, b_leq, b_gtr, b_geq, b_sadd, b_seql, b_sneq, oc_int, oc_bool, oc_str, oc_nilslice, oc_nilptr, oc_nilmap, oc_nilfunc, oc_nilface, bi_len, bi_max, bi_min, mx_nil, mx_one, frz_islice, frz_nilslice, frz_int, frz_bool, frz_str, List.getD_cons_zero, List.getD_cons_succ, List.set_cons_zero, List.set_cons_succ, List.map_cons, List.map_nil, Option.map_some, Option.map_none, Option.bind_some, Option.bind_none, List.length_nil, List.length_cons, List.nil_append, List.cons_append, List.append_nil, List.replicate_succ, List.replicate_zero, Nat.reduceAdd, Nat.reduceSub, Bool.false_eq_true, if_true, if_false, reduceIte, reduceCtorEq, List.getElem?_cons_zero, List.getElem?_cons_succ, List.getElem?_toArray, g1, e2, c1]
      exact W.done (End.ret (v := .bool true) rfl rfl)
    | true =>
      rw [hk] at e2
      have c1 : ((0 : Int) != 0) = false := rfl
      have c1' : ((0 : Int) == 0) = true := rfl
      obtain ⟨_, ⟨h1, rfl, h2⟩, p3⟩ := (settle_fz y1 l hv).op (by rfl) fy
      obtain ⟨_, ⟨i1, rfl, i2⟩, p4⟩ := (settle_fz h1 _ h2).op (by rfl) (frzL_cons (h2.frz _) rfl)
      obtain ⟨_, ⟨b1, rfl, b2⟩, p5⟩ := (free_fz y1 l hv).op (by rfl) fy
      obtain ⟨_, ⟨d1, rfl, d2⟩, p6⟩ := (take_fz y1 l hv).op (by rfl) fy
      obtain ⟨_, ⟨f1, rfl, f2⟩, p7⟩ := (give_fz d1 _ d2 a).op (by rfl) (frzL_cons (d2.frz _) (frzL_cons rfl rfl))
      obtain ⟨_, ⟨j1, rfl, j2⟩, p8⟩ := (give_fz y1 l hv a).op (by rfl) fya
      obtain ⟨_, ⟨k1, rfl, k2⟩, p9⟩ := (take_fz j1 _ j2).op (by rfl) (frzL_cons (j2.frz _) rfl)
      rw [settleR_ok hk] at h2 p3 i2 p4
      simp only at h2 p3 i2 p4
      rw [settleR_ok (okTab_settled hk), settled_twice] at i2 p4
      simp only at i2 p4
      rw [freeR_ok hk] at b2 p5
      simp only at b2 p5
      have e3 : ∀ d, _ := fun d => p3 7 0 d [[]] rfl
      have e4 : ∀ d, _ := fun d => p4 7 0 d [[]] rfl
      have e5 : ∀ d, _ := fun d => p5 7 0 d [[]] rfl
      have e6 : ∀ d, _ := fun d => p6 7 0 d [[]] rfl
      have e7 : ∀ d, _ := fun d => p7 7 0 d [[]] rfl
      have e8 : ∀ d, _ := fun d => p8 7 0 d [[]] rfl
      have e9 : ∀ d, _ := fun d => p9 7 0 d [[]] rfl
      have cv : ∀ {x : V} {m : List UInt8} {n : Nat} {g : Get}, sliceCells g 1 x = some (ofBytes m, n) → convertV Tryd.prog g 26 9 x = some (.val (.str m) none) := fun h => conv_bytes Tryd.underlying26 Tryd.underlying5 Tryd.underlying9 h
      have v1 := fun g => cv (IsSl.sc (g := g) h2)
      have v2 := fun g => cv (IsSl.sc (g := g) i2)
      have v3 := fun g => cv (IsSl.sc (g := g) f2)
      have v4 := fun g => cv (IsSl.sc (g := g) k2)
      simp only [u_seq, u_region, u_block, w_op, evOp, us_val, us_call, us_panic, uc_ret, uc_pan, w_cond, ui_true, ui_false, w_opT, ust_val, ust_set, ust_call, uct_ret, w_guardT, ugt_tt, ugt_ff, ugt_tf, ugt_ft, u_draw, quietOp, w_guard, ug_tt, ug_ff, ug_tf, ug_ft, ug_no, ugt_no, nov, gd, w_loop, ul_some, u_ops_nil, u_skip, u_ret, u_exit, u_nil, u_code_ret, u_code_exit, u_code_panic, u_block_normal, u_block_ret, u_block_panic, u_block_exit, rho, putT, wr, b_add, b_sub, b_mul, b_eql, b_neq, b_lss, b_leq, b_gtr, b_geq, b_sadd, b_seql, b_sneq, oc_int, oc_bool, oc_str, oc_nilslice, oc_nilptr, oc_nilmap, oc_nilfunc, oc_nilface, bi_len, bi_max, bi_min, mx_nil, mx_one, frz_islice, frz_nilslice, frz_int, frz_bool, frz_str, List.getD_cons_zero, List.getD_cons_succ, List.set_cons_zero, List.set_cons_succ, List.map_cons, List.map_nil, Option.map_some, Option.map_none, Option.bind_some, Option.bind_none, List.length_nil, List.length_cons, List.nil_append, List.cons_append, List.append_nil, List.replicate_succ, List.replicate_zero, Nat.reduceAdd, Nat.reduceSub, Bool.false_eq_true, if_true, if_false, reduceIte, reduceCtorEq, List.getElem?_cons_zero, List.getElem?_cons_succ, List.getElem?_toArray, g1, e2, c1, e3, e4, e5, v1, v2, beq_self_eq_true, Bool.not_true]
      have rise := frees_rise l 0
      have lf := freesFrom_le l 0
      have ll := okTab_len hk
      generalize freesFrom l 0 = q at *
      have lb := b2.len Tryd.underlying22
      refine W.ul ?_
      refine W.loopS (kt := [0, 1, 5, 10, 12]) rfl (fun i : Nat => st7_10 y1 (.int .i64 a) (.bool true) b1 (.int .i64 i)) (fun i => [[]]) (fun i => 1 ≤ i) (fun i => q.length - i) ?_ 1 (by omega) rfl rfl
      intro i hi
      simp only [st7_10]
      by_cases h : i < q.length
      · have c2 : decide ((i : Int) < q.length) = true := decide_eq_true (by omega)
        have at1 := b2.at (k := .i64) Tryd.underlying22 sz3 (by decide) (i := (i : Int)) (by omega) (by omega)
        have at2 := b2.at (k := .i64) Tryd.underlying22 sz3 (by decide) (i := ((i - 1 : Nat) : Int)) (by omega) (by omega)
        have w0 : (IntKind.i64).wrap ((i : Int) - 1) = ((i - 1 : Nat) : Int) := by rw [wrap_i64] <;> omega
        have w1 := wrap_add1 (i := i) (by omega)
        have hlt : i - 1 < q.length := by omega
        have lt : q[i - 1] < q[i] := List.pairwise_iff_getElem.1 rise (i - 1) i hlt h (by omega)
        have c3 : decide (q[i] ≤ q[i - 1]) = false := decide_eq_false (by omega)
        have ib := b2.id?
        simp only [u_seq, u_region, u_block, w_op, evOp, us_val, us_call, us_panic, uc_ret, uc_pan, w_cond, ui_true, ui_false, w_opT, ust_val, ust_set, ust_call, uct_ret, w_guardT, ugt_tt, ugt_ff, ugt_tf, ugt_ft, u_draw, quietOp, w_guard, ug_tt, ug_ff, ug_tf, ug_ft, ug_no, ugt_no, nov, gd, w_loop, ul_some, u_ops_nil, u_skip, u_ret, u_exit, u_nil, u_code_ret, u_code_exit, u_code_panic, u_block_normal, u_block_ret, u_block_panic, u_block_exit, rho, putT, wr, b_add, b_sub, b_mul, b_eql, b_neq, b_lss, b_leq, b_gtr, b_geq, b_sadd, b_seql, b_sneq, oc_int, oc_bool, oc_str, oc_nilslice, oc_nilptr, oc_nilmap, oc_nilfunc, oc_nilface, bi_len, bi_max, bi_min, mx_nil, mx_one, frz_islice, frz_nilslice, frz_int, frz_bool, frz_str, List.getD_cons_zero, List.getD_cons_succ, List.set_cons_zero, List.set_cons_succ, List.map_cons, List.map_nil, Option.map_some, Option.map_none, Option.bind_some, Option.bind_none, List.length_nil, List.length_cons, List.nil_append, List.cons_append, List.append_nil, List.replicate_succ, List.replicate_zero, Nat.reduceAdd, Nat.reduceSub, Bool.false_eq_true, if_true, if_false, reduceIte, reduceCtorEq, List.getElem?_cons_zero, List.getElem?_cons_succ, List.getElem?_toArray, lb, c2, at1, w0, at2, rd3, gi h, gi hlt, c3, w1]
        refine W.opsK ?_ ?_
        · kernel_rfl
        simp only [u_seq, u_region, u_block, w_op, evOp, us_val, us_call, us_panic, uc_ret, uc_pan, w_cond, ui_true, ui_false, w_opT, ust_val, ust_set, ust_call, uct_ret, w_guardT, ugt_tt, ugt_ff, ugt_tf, ugt_ft, u_draw, quietOp, w_guard, ug_tt, ug_ff, ug_tf, ug_ft, ug_no, ugt_no, nov, gd, w_loop, ul_some, u_ops_nil, u_skip, u_ret, u_exit, u_nil, u_code_ret, u_code_exit, u_code_panic, u_block_normal, u_block_ret, u_block_panic, u_block_exit, rho, putT, wr, b_add, b_sub, b_mul, b_eql, b_neq, b_lss, b_leq, b_gtr, b_geq, b_sadd, b_seql, b_sneq, oc_int, oc_bool, oc_str, oc_nilslice, oc_nilptr, oc_nilmap, oc_nilfunc, oc_nilface, bi_len, bi_max, bi_min, mx_nil, mx_one, frz_islice, frz_nilslice, frz_int, frz_bool, frz_str, List.getD_cons_zero, List.getD_cons_succ, List.set_cons_zero, List.set_cons_succ, List.map_cons, List.map_nil, Option.map_some, Option.map_none, Option.bind_some, Option.bind_none, List.length_nil, List.length_cons, List.nil_append, List.cons_append, List.append_nil, List.replicate_succ, List.replicate_zero, Nat.reduceAdd, Nat.reduceSub, Bool.false_eq_true, if_true, if_false, reduceIte, reduceCtorEq, List.getElem?_cons_zero, List.getElem?_cons_succ, List.getElem?_toArray, c3, w1]
        exact W.done ⟨i + 1, rfl, rfl, by omega, by omega⟩
      · have c2 : decide ((i : Int) < q.length) = false := decide_eq_false (by omega)
        simp only [u_seq, u_region, u_block, w_op, evOp, us_val, us_call, us_panic, uc_ret, uc_pan, w_cond, ui_true, ui_false, w_opT, ust_val, ust_set, ust_call, uct_ret, w_guardT, ugt_tt, ugt_ff, ugt_tf, ugt_ft, u_draw, quietOp, w_guard, ug_tt, ug_ff, ug_tf, ug_ft, ug_no, ugt_no, nov, gd, w_loop, ul_some, u_ops_nil, u_skip, u_ret, u_exit, u_nil, u_code_ret, u_code_exit, u_code_panic, u_block_normal, u_block_ret, u_block_panic, u_block_exit, rho, putT, wr, b_add, b_sub, b_mul, b_eql, b_neq, b_lss, b_leq, b_gtr, b_geq, b_sadd, b_seql, b_sneq, oc_int, oc_bool, oc_str, oc_nilslice, oc_nilptr, oc_nilmap, oc_nilfunc, oc_nilface, bi_len, bi_max, bi_min, mx_nil, mx_one, frz_islice, frz_nilslice, frz_int, frz_bool, frz_str, List.getD_cons_zero, List.getD_cons_succ, List.set_cons_zero, List.set_cons_succ, List.map_cons, List.map_nil, Option.map_some, Option.map_none, Option.bind_some, Option.bind_none, List.length_nil, List.length_cons, List.nil_append, List.cons_append, List.append_nil, List.replicate_succ, List.replicate_zero, Nat.reduceAdd, Nat.reduceSub, Bool.false_eq_true, if_true, if_false, reduceIte, reduceCtorEq, List.getElem?_cons_zero, List.getElem?_cons_succ, List.getElem?_toArray, lb, c2]
        refine W.done ?_
        by_cases ht : (takeR l).2.2 = 0
        · obtain ⟨p, r1, r2, r3, r4, r5, r6⟩ := take_some hk ht
          rw [r1] at e6 e7 f2 v3
          simp only at e6 e7 f2 v3
          rcases order_swap (a := a) hk r1 r2 r4 r5 r6 with ⟨s1, s2⟩ | ⟨i, rfl, s1, s2, s3, s4⟩
          · have c3 : ((giveR l a).2 != 0) = true := bne_iff_ne.2 s1
            rcases s2 with s2 | ⟨s2, rfl⟩
            · have c4 : ((giveR (l.set p 1) a).2 != 0) = true := bne_iff_ne.2 s2
              simp only [u_seq, u_region, u_block, w_op, evOp, us_val, us_call, us_panic, uc_ret, uc_pan, w_cond, ui_true, ui_false, w_opT, ust_val, ust_set, ust_call, uct_ret, w_guardT, ugt_tt, ugt_ff, ugt_tf, ugt_ft, u_draw, quietOp, w_guard, ug_tt, ug_ff, ug_tf, ug_ft, ug_no, ugt_no, nov, gd, w_loop, ul_some, u_ops_nil, u_skip, u_ret, u_exit, u_nil, u_code_ret, u_code_exit, u_code_panic, u_block_normal, u_block_ret, u_block_panic, u_block_exit, rho, putT, wr, b_add, b_sub, b_mul, b_eql, b_neq, b_lss, b_leq, b_gtr, b_geq, b_sadd, b_seql, b_sneq, oc_int, oc_bool, oc_str, oc_nilslice, oc_nilptr, oc_nilmap, oc_nilfunc, oc_nilface, bi_len, bi_max, bi_min, mx_nil, mx_one, frz_islice, frz_nilslice, frz_int, frz_bool, frz_str, List.getD_cons_zero, List.getD_cons_succ, List.set_cons_zero, List.set_cons_succ, List.map_cons, List.map_nil, Option.map_some, Option.map_none, Option.bind_some, Option.bind_none, List.length_nil, List.length_cons, List.nil_append, List.cons_append, List.append_nil, List.replicate_succ, List.replicate_zero, Nat.reduceAdd, Nat.reduceSub, Bool.false_eq_true, if_true, if_false, reduceIte, reduceCtorEq, List.getElem?_cons_zero, List.getElem?_cons_succ, List.getElem?_toArray, e6, e7, e8, e9, c1, c3, c4]
              exact W.done (End.ret (v := .bool true) rfl rfl)
            · rw [s2] at e7
              simp only [u_seq, u_region, u_block, w_op, evOp, us_val, us_call, us_panic, uc_ret, uc_pan, w_cond, ui_true, ui_false, w_opT, ust_val, ust_set, ust_call, uct_ret, w_guardT, ugt_tt, ugt_ff, ugt_tf, ugt_ft, u_draw, quietOp, w_guard, ug_tt, ug_ff, ug_tf, ug_ft, ug_no, ugt_no, nov, gd, w_loop, ul_some, u_ops_nil, u_skip, u_ret, u_exit, u_nil, u_code_ret, u_code_exit, u_code_panic, u_block_normal, u_block_ret, u_block_panic, u_block_exit, rho, putT, wr, b_add, b_sub, b_mul, b_eql, b_neq, b_lss, b_leq, b_gtr, b_geq, b_sadd, b_seql, b_sneq, oc_int, oc_bool, oc_str, oc_nilslice, oc_nilptr, oc_nilmap, oc_nilfunc, oc_nilface, bi_len, bi_max, bi_min, mx_nil, mx_one, frz_islice, frz_nilslice, frz_int, frz_bool, frz_str, List.getD_cons_zero, List.getD_cons_succ, List.set_cons_zero, List.set_cons_succ, List.map_cons, List.map_nil, Option.map_some, Option.map_none, Option.bind_some, Option.bind_none, List.length_nil, List.length_cons, List.nil_append, List.cons_append, List.append_nil, List.replicate_succ, List.replicate_zero, Nat.reduceAdd, Nat.reduceSub, Bool.false_eq_true, if_true, if_false, reduceIte, reduceCtorEq, List.getElem?_cons_zero, List.getElem?_cons_succ, List.getElem?_toArray, e6, e7, e8, e9, c1, c1', c3, beq_self_eq_true]
              exact W.done (End.ret (v := .bool true) rfl rfl)
          · rw [s1] at e8 e9 k2 v4
            simp only at e8 e9 k2 v4
            rw [s3] at e9 k2 v4
            rw [s2] at e7 f2 v3
            simp only at e9 k2 v4 e7 f2 v3
            rw [s4] at v4
            simp only [u_seq, u_region, u_block, w_op, evOp, us_val, us_call, us_panic, uc_ret, uc_pan, w_cond, ui_true, ui_false, w_opT, ust_val, ust_set, ust_call, uct_ret, w_guardT, ugt_tt, ugt_ff, ugt_tf, ugt_ft, u_draw, quietOp, w_guard, ug_tt, ug_ff, ug_tf, ug_ft, ug_no, ugt_no, nov, gd, w_loop, ul_some, u_ops_nil, u_skip, u_ret, u_exit, u_nil, u_code_ret, u_code_exit, u_code_panic, u_block_normal, u_block_ret, u_block_panic, u_block_exit, rho, putT, wr, b_add, b_sub, b_mul, b_eql, b_neq, b_lss, b_leq, b_gtr, b_geq, b_sadd, b_seql, b_sneq, oc_int, oc_bool, oc_str, oc_nilslice, oc_nilptr, oc_nilmap, oc_nilfunc, oc_nilface, bi_len, bi_max, bi_min, mx_nil, mx_one, frz_islice, frz_nilslice, frz_int, frz_bool, frz_str, List.getD_cons_zero, List.getD_cons_succ, List.set_cons_zero, List.set_cons_succ, List.map_cons, List.map_nil, Option.map_some, Option.map_none, Option.bind_some, Option.bind_none, List.length_nil, List.length_cons, List.nil_append, List.cons_append, List.append_nil, List.replicate_succ, List.replicate_zero, Nat.reduceAdd, Nat.reduceSub, Bool.false_eq_true, if_true, if_false, reduceIte, reduceCtorEq, List.getElem?_cons_zero, List.getElem?_cons_succ, List.getElem?_toArray, e6, e7, e8, e9, c1, c1', beq_self_eq_true, v3, v4]
            exact W.done (End.ret (v := .bool true) rfl rfl)
        · obtain ⟨r1, _⟩ := take_none hk ht
          rw [r1] at e6 e7
          have g8 : (giveR ([], (0 : Int), (9 : Int)).1 a).2 = 8 := rfl
          rw [g8] at e7
          simp only at e6 e7
          have c3 : ((9 : Int) != 0) = true := rfl
          have c4 : ((8 : Int) != 0) = true := rfl
          simp only [u_seq, u_region, u_block, w_op, evOp, us_val, us_call, us_panic, uc_ret, uc_pan, w_cond, ui_true, ui_false, w_opT, ust_val, ust_set, ust_call, uct_ret, w_guardT, ugt_tt, ugt_ff, ugt_tf, ugt_ft, u_draw, quietOp, w_guard, ug_tt, ug_ff, ug_tf, ug_ft, ug_no, ugt_no, nov, gd, w_loop, ul_some, u_ops_nil, u_skip, u_ret, u_exit, u_nil, u_code_ret, u_code_exit, u_code_panic, u_block_normal, u_block_ret, u_block_panic, u_block_exit, rho, putT, wr, b_add, b_sub, b_mul, b_eql, b_neq, b_lss, b_leq, b_gtr, b_geq, b_sadd, b_seql, b_sneq, oc_int, oc_bool, oc_str, oc_nilslice, oc_nilptr, oc_nilmap, oc_nilfunc, oc_nilface, bi_len, bi_max, bi_min, mx_nil, mx_one, frz_islice, frz_nilslice, frz_int, frz_bool, frz_str, List.getD_cons_zero, List.getD_cons_succ, List.set_cons_zero, List.set_cons_succ, List.map_cons, List.map_nil, Option.map_some, Option.map_none, Option.bind_some, Option.bind_none, List.length_nil, List.length_cons, List.nil_append, List.cons_append, List.append_nil, List.replicate_succ, List.replicate_zero, Nat.reduceAdd, Nat.reduceSub, Bool.false_eq_true, if_true, if_false, reduceIte, reduceCtorEq, List.getElem?_cons_zero, List.getElem?_cons_succ, List.getElem?_toArray, e6, e7, e8, e9, c3, c4]
          exact W.done (End.ret (v := .bool true) rfl rfl)
  obtain ⟨r, H', h3, rfl⟩ := key
  exact ⟨H', h3⟩
end Go.Proofs.YtpbhldhmjmfigaaDoor
