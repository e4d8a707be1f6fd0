/- space: alive; SpaceNames. -/
import Derived.Test.YtpbhldhmjmfigaaDoorT11
set_option linter.unusedSimpArgs false
set_option linter.unusedVariables false
set_option maxRecDepth 100000
namespace Go.Proofs.YtpbhldhmjmfigaaDoor
open Go.AM
attribute [local irreducible] U W

theorem alive_fz : Fz Tryd.prog pol 13 [] fun r => r = .bool true := by
  refine fz_of Tryd.func13 rfl ?_
  obtain ⟨n1, q1, p1⟩ := new_fz.op (by rfl) rfl
  obtain ⟨_, ⟨w, rfl, hw⟩, p2⟩ := (take_fz n1 _ q1).op (by rfl) (frzL_cons (q1.frz _) rfl)
  have t : takeR newTab = (newTab.set 12 1, 12, 0) := by decide +kernel
  rw [t] at hw p2
  simp only at hw p2
  have e1 : ∀ d, _ := fun d => p1 13 0 d [[]] rfl
  have e2 : ∀ d, _ := fun d => p2 13 0 d [[]] rfl
  have len := hw.len Tryd.underlying26
  have ll : (newTab.set 12 1).length = 256 := by decide +kernel
  have at1 := hw.at (k := .i64) Tryd.underlying26 sz5 (by decide) (i := 12) (by omega) (by rw [ll]; decide)
  have g1 : (ofBytes (newTab.set 12 1))[(12 : Int).toNat * 1]? = some (.int .u8 1) := by rw [ofBytes_get]; rfl
  rw [ll] at len
  have c1 : ((0 : Int) == 0) = true := rfl
  have c2 : ((12 : Int) == 12) = true := rfl
  have c3 : (((256 : Nat) : Int) == 256) = true := rfl
  have c4 : ((1 : Int) == 1) = true := rfl
  simp only [u_seq, u_region, u_block, w_op, evOp, us_val, us_call, us_panic, uc_ret, uc_pan, w_cond, ui_true, ui_false, w_opT, ust_val, ust_set, ust_call, uct_ret, w_guardT, ugt_tt, ugt_ff, ugt_tf, ugt_ft, u_draw, quietOp, w_guard, ug_tt, ug_ff, ug_tf, ug_ft, ug_no, ugt_no, nov, gd, w_loop, ul_some, u_ops_nil, u_skip, u_ret, u_exit, u_nil, u_code_ret, u_code_exit, u_code_panic, u_block_normal, u_block_ret, u_block_panic, u_block_exit, rho, putT, wr, b_add, b_sub, b_mul, b_eql, b_neq, b_lss, b_leq, b_gtr, b_geq, b_sadd, b_seql, b_sneq, oc_int, oc_bool, oc_str, oc_nilslice, oc_nilptr, oc_nilmap, oc_nilfunc, oc_nilface, bi_len, bi_max, bi_min, mx_nil, mx_one, frz_islice, frz_nilslice, frz_int, frz_bool, frz_str, List.getD_cons_zero, List.getD_cons_succ, List.set_cons_zero, List.set_cons_succ, List.map_cons, List.map_nil, Option.map_some, Option.map_none, Option.bind_some, Option.bind_none, List.length_nil, List.length_cons, List.nil_append, List.cons_append, List.append_nil, List.replicate_succ, List.replicate_zero, Nat.reduceAdd, Nat.reduceSub, Bool.false_eq_true, if_true, if_false, reduceIte, reduceCtorEq, List.getElem?_cons_zero, List.getElem?_cons_succ, List.getElem?_toArray, Tryd.ntmps13, e1, e2, len, at1, rd5, g1, c1, c2, c3, c4]
  exact W.done (EndZ.ret (v := .bool true) rfl rfl rfl)

theorem names_law : ∀ xs, ArgsRead Tryd.prog [] xs → ∃ H', callW Tryd.prog pol 3 xs [] = some (.ret (.bool true), H') := by
  rintro xs rfl
  have key : CW Tryd.prog pol 3 [] [] fun r H' => r = .ret (.bool true) := by
    refine cw_of Tryd.func3 rfl ?_
    obtain ⟨n1, q1, p1⟩ := new_fz.op (by rfl) rfl
    obtain ⟨_, ⟨a1, rfl, a2⟩, p2⟩ := (free_fz n1 _ q1).op (by rfl) (frzL_cons (q1.frz _) rfl)
    obtain ⟨_, ⟨b1, rfl, b2⟩, p3⟩ := (give_fz n1 _ q1 12).op (by rfl) (frzL_cons (q1.frz _) (frzL_cons rfl rfl))
    obtain ⟨_, ⟨c1, rfl, c2⟩, p4⟩ := (give_fz n1 _ q1 11).op (by rfl) (frzL_cons (q1.frz _) (frzL_cons rfl rfl))
    obtain ⟨_, ⟨d1, rfl, d2⟩, p5⟩ := (take_fz n1 _ q1).op (by rfl) (frzL_cons (q1.frz _) rfl)
    obtain ⟨_, ⟨e1, rfl, e2⟩, p6⟩ := (give_fz d1 _ d2 12).op (by rfl) (frzL_cons (d2.frz _) (frzL_cons rfl rfl))
    obtain ⟨_, ⟨f1, rfl, f2⟩, p7⟩ := (take_fz e1 _ e2).op (by rfl) (frzL_cons (e2.frz _) rfl)
    obtain ⟨_, ⟨g1, rfl, g2⟩, p8⟩ := (settle_fz e1 _ e2).op (by rfl) (frzL_cons (e2.frz _) rfl)
    obtain ⟨_, ⟨h1, rfl, h2⟩, p9⟩ := (take_fz g1 _ g2).op (by rfl) (frzL_cons (g2.frz _) rfl)
    obtain ⟨_, rfl, p10⟩ := alive_fz.op (by rfl) rfl
    obtain ⟨_, rfl, p11⟩ := (check_fz .nilslice [] IsBytes.nil).op (by rfl) rfl
    have t1 : (freeR newTab).1.length = 244 ∧ (freeR newTab).2 = 0 := by decide +kernel
    have t2 : (giveR newTab 12).2 = 6 := by decide +kernel
    have t3 : (giveR newTab 11).2 = 2 := by decide +kernel
    have t4 : (takeR newTab).2.2 = 0 := by decide +kernel
    have t5 : (giveR (takeR newTab).1 12).2 = 0 := by decide +kernel
    have t6 : (takeR (giveR (takeR newTab).1 12).1).2.1 = 13 ∧ (takeR (giveR (takeR newTab).1 12).1).2.2 = 0 := by decide +kernel
    have t7 : (settleR (giveR (takeR newTab).1 12).1).2 = 0 := by decide +kernel
    have t8 : (takeR (settleR (giveR (takeR newTab).1 12).1).1).2.1 = 12 ∧ (takeR (settleR (giveR (takeR newTab).1 12).1).1).2.2 = 0 := by decide +kernel
    have len := a2.len Tryd.underlying22
    rw [t1.1] at len
    rw [t1.2] at p2; rw [t2] at p3; rw [t3] at p4; rw [t4] at p5; rw [t5] at p6; rw [t6.1, t6.2] at p7; rw [t7] at p8; rw [t8.1, t8.2] at p9
    generalize (takeR newTab).2.1 = x1 at *
    have r1 : ∀ d, _ := fun d => p1 3 0 d [[]] rfl
    have r2 : ∀ d, _ := fun d => p2 3 0 d [[]] rfl
    have r3 : ∀ d, _ := fun d => p3 3 0 d [[]] rfl
    have r4 : ∀ d, _ := fun d => p4 3 0 d [[]] rfl
    have r5 : ∀ d, _ := fun d => p5 3 0 d [[]] rfl
    have r6 : ∀ d, _ := fun d => p6 3 0 d [[]] rfl
    have r7 : ∀ d, _ := fun d => p7 3 0 d [[]] rfl
    have r8 : ∀ d, _ := fun d => p8 3 0 d [[]] rfl
    have r9 : ∀ d, _ := fun d => p9 3 0 d [[]] rfl
    have r10 : ∀ d, _ := fun d => p10 3 0 d [[]] rfl
    have r11 : ∀ d, callOp pol (callW Tryd.prog pol) 3 0 d 14 [.nilslice] [[]] = some (.ret (.int .i64 8), [[]]) := fun d => p11 3 0 d [[]] rfl
    have b0 : ((0 : Int) == 0) = true := rfl
    have b244 : (((244 : Nat) : Int) == 244) = true := rfl
    have b6 : ((6 : Int) == 6) = true := rfl
    have b2' : ((2 : Int) == 2) = true := rfl
    have b13 : ((13 : Int) == 13) = true := rfl
    have b12 : ((12 : Int) == 12) = true := rfl
    have b8 : ((8 : Int) == 8) = true := rfl
    simp only [u_seq, u_region, u_block, w_op, evOp, us_val, us_call, us_panic, uc_ret, uc_pan, w_cond, ui_true, ui_false, w_opT, ust_val, ust_set, ust_call, uct_ret, w_guardT, ugt_tt, ugt_ff, ugt_tf, ugt_ft, u_draw, quietOp, w_guard, ug_tt, ug_ff, ug_tf, ug_ft, ug_no, ugt_no, nov, gd, w_loop, ul_some, u_ops_nil, u_skip, u_ret, u_exit, u_nil, u_code_ret, u_code_exit, u_code_panic, u_block_normal, u_block_ret, u_block_panic, u_block_exit, rho, putT, wr, b_add, b_sub, b_mul, b_eql, b_neq, b_lss, b_leq, b_gtr, b_geq, b_sadd, b_seql, b_sneq, oc_int, oc_bool, oc_str, oc_nilslice, oc_nilptr, oc_nilmap, oc_nilfunc, oc_nilface, bi_len, bi_max, bi_min, mx_nil, mx_one, frz_islice, frz_nilslice, frz_int, frz_bool, frz_str, List.getD_cons_zero, List.getD_cons_succ, List.set_cons_zero, List.set_cons_succ, List.map_cons, List.map_nil, Option.map_some, Option.map_none, Option.bind_some, Option.bind_none, List.length_nil, List.length_cons, List.nil_append, List.cons_append, List.append_nil, List.replicate_succ, List.replicate_zero, Nat.reduceAdd, Nat.reduceSub, Bool.false_eq_true, if_true, if_false, reduceIte, reduceCtorEq, List.getElem?_cons_zero, List.getElem?_cons_succ, List.getElem?_toArray, Tryd.ntmps3, r1, r2, r3, r4, r5, r6, r7, r8, r9, r10, r11, len, b0, b244, b6, b2', b13, b12, b8]
    exact W.done (End.ret (v := .bool true) rfl rfl)
  obtain ⟨r, H', h3, rfl⟩ := key
  exact ⟨H', h3⟩
end Go.Proofs.YtpbhldhmjmfigaaDoor
