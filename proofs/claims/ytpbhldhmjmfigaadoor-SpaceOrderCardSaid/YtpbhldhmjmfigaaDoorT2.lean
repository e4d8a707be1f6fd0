/- space: slices.Max, bytes.Count at one byte, Check. -/
import Derived.Test.YtpbhldhmjmfigaaDoorSG
set_option linter.unusedSimpArgs false
set_option linter.unusedVariables false
namespace Go.Proofs.YtpbhldhmjmfigaaDoor
open Go.AM

def maxFrom (m : Int) (l : List UInt8) : Int := l.foldl (fun m b => if (b.toNat : Int) > m then b.toNat else m) m

theorem max_fz (v : V) (b : UInt8) (l : List UInt8) (hv : IsBytes v (b :: l)) (hl : l.length + 1 ≤ 281474976710656) :
    Fz Tryd.prog pol 28 [v] fun r => r = .int .u8 (maxFrom b.toNat l) := by
  refine fz_of Tryd.func28 rfl ?_
  have len := hv.len Tryd.underlying26
  have at0 := hv.at (k := .i64) Tryd.underlying26 sz5 (by decide) (i := 0) (by omega) (by simp)
  have get0 : (ofBytes (b :: l))[(0 : Int).toNat * 1]? = some (.int .u8 b.toNat) := rfl
  have lt1 : decide (((b :: l).length : Int) < 1) = false := decide_eq_false (by simp; omega)
  have hL2 : (b :: l).length = l.length + 1 := rfl
  generalize hL : b :: l = L at *
  simp only [u_seq, u_region, u_block, w_op, evOp, us_val, us_call, us_panic, uc_ret, uc_pan, w_cond, ui_true, ui_false, w_opT, ust_val, ust_set, ust_call, uct_ret, w_guardT, ugt_tt, ugt_ff, ugt_tf, ugt_ft, u_draw, quietOp, w_guard, ug_tt, ug_ff, ug_tf, ug_ft, ug_no, ugt_no, nov, gd, w_loop, ul_some, u_ops_nil, u_skip, u_ret, u_exit, u_nil, u_code_ret, u_code_exit, u_code_panic, u_block_normal, u_block_ret, u_block_panic, u_block_exit, rho, putT, wr, b_add, b_sub, b_mul, b_eql, b_neq, b_lss, b_leq, b_gtr, b_geq, b_sadd, b_seql, b_sneq, oc_int, oc_bool, oc_str, oc_nilslice, oc_nilptr, oc_nilmap, oc_nilfunc, oc_nilface, bi_len, bi_max, bi_min, mx_nil, mx_one, frz_islice, frz_nilslice, frz_int, frz_bool, frz_str, List.getD_cons_zero, List.getD_cons_succ, List.set_cons_zero, List.set_cons_succ, List.map_cons, List.map_nil, Option.map_some, Option.map_none, Option.bind_some, Option.bind_none, List.length_nil, List.length_cons, List.nil_append, List.cons_append, List.append_nil, List.replicate_succ, List.replicate_zero, Nat.reduceAdd, Nat.reduceSub, Bool.false_eq_true, if_true, if_false, reduceIte, reduceCtorEq, List.getElem?_cons_zero, List.getElem?_cons_succ, List.getElem?_toArray, Tryd.ntmps28, len, at0, lt1, rd5, get0]
  refine W.ul ?_
  refine W.loopS (kt := [0, 3, 4]) rfl (fun a : Int × Nat => st28_5 v (.int .u8 a.1) (.int .i64 a.2)) (fun _ => [[]]) (fun a => a.2 ≤ L.length ∧ maxFrom a.1 (L.drop a.2) = maxFrom b.toNat l) (fun a => L.length - a.2) ?_ (b.toNat, 1) ⟨by subst hL; simp, by subst hL; simp⟩ rfl rfl
  rintro ⟨m, i⟩ ⟨hi, hm⟩
  simp only at hi hm
  by_cases h : i < L.length
  · have c1 : decide ((i : Int) < L.length) = true := by simp; omega
    have at1 := hv.at (k := .i64) Tryd.underlying26 sz5 (by decide) (i := (i : Int)) (by omega) (by omega)
    have get1 : (ofBytes L)[(i : Int).toNat * 1]? = some (.int .u8 L[i].toNat) := by simp [ofBytes_get, h]
    have w1 : (IntKind.i64).wrap ((i : Int) + 1) = ((i + 1 : Nat) : Int) := by rw [wrap_i64] <;> omega
    simp only [st28_5]
    simp only [u_seq, u_region, u_block, w_op, evOp, us_val, us_call, us_panic, uc_ret, uc_pan, w_cond, ui_true, ui_false, w_opT, ust_val, ust_set, ust_call, uct_ret, w_guardT, ugt_tt, ugt_ff, ugt_tf, ugt_ft, u_draw, quietOp, w_guard, ug_tt, ug_ff, ug_tf, ug_ft, ug_no, ugt_no, nov, gd, w_loop, ul_some, u_ops_nil, u_skip, u_ret, u_exit, u_nil, u_code_ret, u_code_exit, u_code_panic, u_block_normal, u_block_ret, u_block_panic, u_block_exit, rho, putT, wr, b_add, b_sub, b_mul, b_eql, b_neq, b_lss, b_leq, b_gtr, b_geq, b_sadd, b_seql, b_sneq, oc_int, oc_bool, oc_str, oc_nilslice, oc_nilptr, oc_nilmap, oc_nilfunc, oc_nilface, bi_len, bi_max, bi_min, mx_nil, mx_one, frz_islice, frz_nilslice, frz_int, frz_bool, frz_str, List.getD_cons_zero, List.getD_cons_succ, List.set_cons_zero, List.set_cons_succ, List.map_cons, List.map_nil, Option.map_some, Option.map_none, Option.bind_some, Option.bind_none, List.length_nil, List.length_cons, List.nil_append, List.cons_append, List.append_nil, List.replicate_succ, List.replicate_zero, Nat.reduceAdd, Nat.reduceSub, Bool.false_eq_true, if_true, if_false, reduceIte, reduceCtorEq, List.getElem?_cons_zero, List.getElem?_cons_succ, List.getElem?_toArray, len, c1, at1, rd5, get1, w1]
    refine W.done ⟨(_, i + 1), rfl, rfl, ⟨by simp only; omega, ?_⟩, by simp only; omega⟩
    rw [← hm, List.drop_eq_getElem_cons h]
    rfl
  · have c1 : decide ((i : Int) < L.length) = false := by simp; omega
    simp only [st28_5]
    simp only [u_seq, u_region, u_block, w_op, evOp, us_val, us_call, us_panic, uc_ret, uc_pan, w_cond, ui_true, ui_false, w_opT, ust_val, ust_set, ust_call, uct_ret, w_guardT, ugt_tt, ugt_ff, ugt_tf, ugt_ft, u_draw, quietOp, w_guard, ug_tt, ug_ff, ug_tf, ug_ft, ug_no, ugt_no, nov, gd, w_loop, ul_some, u_ops_nil, u_skip, u_ret, u_exit, u_nil, u_code_ret, u_code_exit, u_code_panic, u_block_normal, u_block_ret, u_block_panic, u_block_exit, rho, putT, wr, b_add, b_sub, b_mul, b_eql, b_neq, b_lss, b_leq, b_gtr, b_geq, b_sadd, b_seql, b_sneq, oc_int, oc_bool, oc_str, oc_nilslice, oc_nilptr, oc_nilmap, oc_nilfunc, oc_nilface, bi_len, bi_max, bi_min, mx_nil, mx_one, frz_islice, frz_nilslice, frz_int, frz_bool, frz_str, List.getD_cons_zero, List.getD_cons_succ, List.set_cons_zero, List.set_cons_succ, List.map_cons, List.map_nil, Option.map_some, Option.map_none, Option.bind_some, Option.bind_none, List.length_nil, List.length_cons, List.nil_append, List.cons_append, List.append_nil, List.replicate_succ, List.replicate_zero, Nat.reduceAdd, Nat.reduceSub, Bool.false_eq_true, if_true, if_false, reduceIte, reduceCtorEq, List.getElem?_cons_zero, List.getElem?_cons_succ, List.getElem?_toArray, len, c1]
    refine W.done ?_
    have : m = maxFrom b.toNat l := by rw [← hm, List.drop_eq_nil_of_le (by omega)]; rfl
    subst this
    simp only [u_seq, u_region, u_block, w_op, evOp, us_val, us_call, us_panic, uc_ret, uc_pan, w_cond, ui_true, ui_false, w_opT, ust_val, ust_set, ust_call, uct_ret, w_guardT, ugt_tt, ugt_ff, ugt_tf, ugt_ft, u_draw, quietOp, w_guard, ug_tt, ug_ff, ug_tf, ug_ft, ug_no, ugt_no, nov, gd, w_loop, ul_some, u_ops_nil, u_skip, u_ret, u_exit, u_nil, u_code_ret, u_code_exit, u_code_panic, u_block_normal, u_block_ret, u_block_panic, u_block_exit, rho, putT, wr, b_add, b_sub, b_mul, b_eql, b_neq, b_lss, b_leq, b_gtr, b_geq, b_sadd, b_seql, b_sneq, oc_int, oc_bool, oc_str, oc_nilslice, oc_nilptr, oc_nilmap, oc_nilfunc, oc_nilface, bi_len, bi_max, bi_min, mx_nil, mx_one, frz_islice, frz_nilslice, frz_int, frz_bool, frz_str, List.getD_cons_zero, List.getD_cons_succ, List.set_cons_zero, List.set_cons_succ, List.map_cons, List.map_nil, Option.map_some, Option.map_none, Option.bind_some, Option.bind_none, List.length_nil, List.length_cons, List.nil_append, List.cons_append, List.append_nil, List.replicate_succ, List.replicate_zero, Nat.reduceAdd, Nat.reduceSub, Bool.false_eq_true, if_true, if_false, reduceIte, reduceCtorEq, List.getElem?_cons_zero, List.getElem?_cons_succ, List.getElem?_toArray]
    exact W.done (EndZ.ret rfl rfl rfl)

theorem op39 (C : AM.Call) (fn fr : Nat) (d : Option Nat) (H : Heap) (v : V) (l : List UInt8) (hv : IsBytes v l) (c : UInt8) :
    callOp pol C fn fr d 39 [v, .int .u8 c.toNat] H = some (.ret (.int .i64 (l.count c)), H) := by
  have e : pol.prim 39 = some primCount := rfl
  simp only [callOp, e, primCount, hv.bytesV, Option.map_some, wr, Lib.countByte]
  simp

theorem count_fz (v w : V) (l : List UInt8) (c : UInt8) (hv : IsBytes v l) (hw : IsBytes w [c]) :
    Fz Tryd.prog pol 29 [v, w] fun r => r = .int .i64 (l.count c) := by
  refine fz_of Tryd.func29 rfl ?_
  have len := hw.len Tryd.underlying26
  have at0 := hw.at (k := .i64) Tryd.underlying26 sz5 (by decide) (i := 0) (by omega) (by simp)
  have get0 : (ofBytes [c])[(0 : Int).toNat * 1]? = some (.int .u8 c.toNat) := rfl
  have c1 : ((([c] : List UInt8).length : Int) == 0) = false := rfl
  have c2 : ((([c] : List UInt8).length : Int) == 1) = true := rfl
  have ct : ∀ d, callOp pol (callW Tryd.prog pol) 29 0 d 39 [v, .int .u8 c.toNat] [[]] = some (.ret (.int .i64 (l.count c)), [[]]) := fun d => op39 _ _ _ _ _ v l hv c
  generalize hn : ([c] : List UInt8).length = n at *
  simp only [u_seq, u_region, u_block, w_op, evOp, us_val, us_call, us_panic, uc_ret, uc_pan, w_cond, ui_true, ui_false, w_opT, ust_val, ust_set, ust_call, uct_ret, w_guardT, ugt_tt, ugt_ff, ugt_tf, ugt_ft, u_draw, quietOp, w_guard, ug_tt, ug_ff, ug_tf, ug_ft, ug_no, ugt_no, nov, gd, w_loop, ul_some, u_ops_nil, u_skip, u_ret, u_exit, u_nil, u_code_ret, u_code_exit, u_code_panic, u_block_normal, u_block_ret, u_block_panic, u_block_exit, rho, putT, wr, b_add, b_sub, b_mul, b_eql, b_neq, b_lss, b_leq, b_gtr, b_geq, b_sadd, b_seql, b_sneq, oc_int, oc_bool, oc_str, oc_nilslice, oc_nilptr, oc_nilmap, oc_nilfunc, oc_nilface, bi_len, bi_max, bi_min, mx_nil, mx_one, frz_islice, frz_nilslice, frz_int, frz_bool, frz_str, List.getD_cons_zero, List.getD_cons_succ, List.set_cons_zero, List.set_cons_succ, List.map_cons, List.map_nil, Option.map_some, Option.map_none, Option.bind_some, Option.bind_none, List.length_nil, List.length_cons, List.nil_append, List.cons_append, List.append_nil, List.replicate_succ, List.replicate_zero, Nat.reduceAdd, Nat.reduceSub, Bool.false_eq_true, if_true, if_false, reduceIte, reduceCtorEq, List.getElem?_cons_zero, List.getElem?_cons_succ, List.getElem?_toArray, Tryd.ntmps29, len, at0, rd5, get0, c1, c2, ct]
  exact W.done (EndZ.ret rfl rfl rfl)

/-- space.Check, in plain Lean: which tables may be. -/
def okTab (l : List UInt8) : Bool := l.length == 256 && l.all (fun b => b ≤ 2) && ((l.take 12).count 1 == 12)

theorem maxFrom_le (n : Int) : ∀ (l : List UInt8) (m : Int), maxFrom m l ≤ n ↔ m ≤ n ∧ ∀ b ∈ l, (b.toNat : Int) ≤ n
  | [], m => by simp [maxFrom]
  | b :: l, m => by
    have e : maxFrom m (b :: l) = maxFrom (if (b.toNat : Int) > m then b.toNat else m) l := rfl
    rw [e, maxFrom_le n l]
    split
    · constructor
      · rintro ⟨h1, h2⟩; exact ⟨by omega, by simpa using ⟨h1, h2⟩⟩
      · rintro ⟨h1, h2⟩; simp at h2; exact ⟨h2.1, h2.2⟩
    · constructor
      · rintro ⟨h1, h2⟩; exact ⟨h1, by simp; exact ⟨by omega, h2⟩⟩
      · rintro ⟨h1, h2⟩; simp at h2; exact ⟨h1, h2.2⟩
theorem le2 (b : UInt8) : ((b.toNat : Int) ≤ 2) ↔ (b ≤ 2) := by rw [UInt8.le_iff_toNat_le]; simp; omega

theorem check_fz (v : V) (l : List UInt8) (hv : IsBytes v l) :
    Fz Tryd.prog pol 14 [v] fun r => r = .int .i64 (if okTab l then 0 else 8) := by
  refine fz_of Tryd.func14 rfl ?_
  have len := hv.len Tryd.underlying26
  simp only [u_seq, u_region, u_block, w_op, evOp, us_val, us_call, us_panic, uc_ret, uc_pan, w_cond, ui_true, ui_false, w_opT, ust_val, ust_set, ust_call, uct_ret, w_guardT, ugt_tt, ugt_ff, ugt_tf, ugt_ft, u_draw, quietOp, w_guard, ug_tt, ug_ff, ug_tf, ug_ft, ug_no, ugt_no, nov, gd, w_loop, ul_some, u_ops_nil, u_skip, u_ret, u_exit, u_nil, u_code_ret, u_code_exit, u_code_panic, u_block_normal, u_block_ret, u_block_panic, u_block_exit, rho, putT, wr, b_add, b_sub, b_mul, b_eql, b_neq, b_lss, b_leq, b_gtr, b_geq, b_sadd, b_seql, b_sneq, oc_int, oc_bool, oc_str, oc_nilslice, oc_nilptr, oc_nilmap, oc_nilfunc, oc_nilface, bi_len, bi_max, bi_min, mx_nil, mx_one, frz_islice, frz_nilslice, frz_int, frz_bool, frz_str, List.getD_cons_zero, List.getD_cons_succ, List.set_cons_zero, List.set_cons_succ, List.map_cons, List.map_nil, Option.map_some, Option.map_none, Option.bind_some, Option.bind_none, List.length_nil, List.length_cons, List.nil_append, List.cons_append, List.append_nil, List.replicate_succ, List.replicate_zero, Nat.reduceAdd, Nat.reduceSub, Bool.false_eq_true, if_true, if_false, reduceIte, reduceCtorEq, List.getElem?_cons_zero, List.getElem?_cons_succ, List.getElem?_toArray, Tryd.ntmps14, len]
  by_cases h1 : l.length = 256
  · have c1 : ((l.length : Int) != 256) = false := by simp [h1]
    match l, h1 with
    | b :: l', h1 =>
    obtain ⟨m, rfl, hm⟩ := (max_fz v b l' hv (by simp at h1; omega)).op (by rfl) (frzL_cons (hv.frz _) rfl)
    have hm' : ∀ d, _ := fun d => hm 14 0 d [[]] rfl
    generalize hL : b :: l' = L at *
    obtain ⟨w, hw, hw'⟩ := hv.cut Tryd.underlying26 sz5 none (some 12) (by simp) (by simp) (by simp; omega)
    simp only [Option.map_none, Option.map_some] at hw
    have bs : IsBytes (.islice [.int .u8 1] 1 true) [1] := IsBytes.mk [1] true
    obtain ⟨m, rfl, hc⟩ := (count_fz _ _ _ 1 hw' bs).op (by rfl) (frzL_cons (hw'.frz _) (frzL_cons (bs.frz _) rfl))
    have hc' : ∀ d, _ := fun d => hc 14 0 d [[]] rfl
    have e1 : L.take 12 = (List.drop ((none : Option Int).getD 0).toNat L).take (((some 12 : Option Int).getD L.length).toNat - ((none : Option Int).getD 0).toNat) := rfl
    rw [← e1] at hc'
    have e2 : maxFrom b.toNat l' ≤ 2 ↔ (L.all fun b => b ≤ 2) = true := by
      rw [maxFrom_le, ← hL]
      simp only [List.all_cons, Bool.and_eq_true, decide_eq_true_eq, List.all_eq_true, le2]
    have z1 : zeroCells Tryd.prog 5 = some [.int .u8 0] := zc5
    simp only [u_seq, u_region, u_block, w_op, evOp, us_val, us_call, us_panic, uc_ret, uc_pan, w_cond, ui_true, ui_false, w_opT, ust_val, ust_set, ust_call, uct_ret, w_guardT, ugt_tt, ugt_ff, ugt_tf, ugt_ft, u_draw, quietOp, w_guard, ug_tt, ug_ff, ug_tf, ug_ft, ug_no, ugt_no, nov, gd, w_loop, ul_some, u_ops_nil, u_skip, u_ret, u_exit, u_nil, u_code_ret, u_code_exit, u_code_panic, u_block_normal, u_block_ret, u_block_panic, u_block_exit, rho, putT, wr, b_add, b_sub, b_mul, b_eql, b_neq, b_lss, b_leq, b_gtr, b_geq, b_sadd, b_seql, b_sneq, oc_int, oc_bool, oc_str, oc_nilslice, oc_nilptr, oc_nilmap, oc_nilfunc, oc_nilface, bi_len, bi_max, bi_min, mx_nil, mx_one, frz_islice, frz_nilslice, frz_int, frz_bool, frz_str, List.getD_cons_zero, List.getD_cons_succ, List.set_cons_zero, List.set_cons_succ, List.map_cons, List.map_nil, Option.map_some, Option.map_none, Option.bind_some, Option.bind_none, List.length_nil, List.length_cons, List.nil_append, List.cons_append, List.append_nil, List.replicate_succ, List.replicate_zero, Nat.reduceAdd, Nat.reduceSub, Bool.false_eq_true, if_true, if_false, reduceIte, reduceCtorEq, List.getElem?_cons_zero, List.getElem?_cons_succ, List.getElem?_toArray, c1, hm']
    refine W.guard (fun g1 => ?_) (fun g1 => ?_)
    · have g2 : maxFrom b.toNat l' ≤ 2 := by have := of_decide_eq_false g1; omega
      have g3 : okTab L = ((L.take 12).count 1 == 12) := by simp only [okTab, h1, beq_self_eq_true, Bool.true_and, e2.1 g2]
      have mt0 : ∀ s, pol.mt 14 s = false := fun s => rfl
      simp only [u_seq, u_region, u_block, w_op, evOp, us_val, us_call, us_panic, uc_ret, uc_pan, w_cond, ui_true, ui_false, w_opT, ust_val, ust_set, ust_call, uct_ret, w_guardT, ugt_tt, ugt_ff, ugt_tf, ugt_ft, u_draw, quietOp, w_guard, ug_tt, ug_ff, ug_tf, ug_ft, ug_no, ugt_no, nov, gd, w_loop, ul_some, u_ops_nil, u_skip, u_ret, u_exit, u_nil, u_code_ret, u_code_exit, u_code_panic, u_block_normal, u_block_ret, u_block_panic, u_block_exit, rho, putT, wr, b_add, b_sub, b_mul, b_eql, b_neq, b_lss, b_leq, b_gtr, b_geq, b_sadd, b_seql, b_sneq, oc_int, oc_bool, oc_str, oc_nilslice, oc_nilptr, oc_nilmap, oc_nilfunc, oc_nilface, bi_len, bi_max, bi_min, mx_nil, mx_one, frz_islice, frz_nilslice, frz_int, frz_bool, frz_str, List.getD_cons_zero, List.getD_cons_succ, List.set_cons_zero, List.set_cons_succ, List.map_cons, List.map_nil, Option.map_some, Option.map_none, Option.bind_some, Option.bind_none, List.length_nil, List.length_cons, List.nil_append, List.cons_append, List.append_nil, List.replicate_succ, List.replicate_zero, Nat.reduceAdd, Nat.reduceSub, Bool.false_eq_true, if_true, if_false, reduceIte, reduceCtorEq, List.getElem?_cons_zero, List.getElem?_cons_succ, List.getElem?_toArray, g1, hw, Tryd.underlying26, sz5, z1, mt0, hc', splice, zerosN, fillV, cells_int, cells_bool, cells_str, cells_nilptr, cells_ptr, cells_iptr, cells_nilslice, cells_islice, cells_gslice, cells_mslice, cells_nilmap, cells_map, cells_func, cells_nilfunc, cells_nilface, cells_face, pureL, V.pure, Nat.reduceMul, Nat.reduceLeDiff, Nat.one_ne_zero, and_self, and_true, true_and, List.take_zero, List.drop_succ_cons, List.drop_zero, List.take_succ_cons, List.replicate_one, Bool.and_self, Bool.and_true, List.drop_nil, List.take_nil, Nat.le_refl, Nat.zero_add, Nat.zero_mul, Nat.one_mul, Nat.mul_one]
      refine W.ite (fun g4 => ?_) (fun g4 => ?_)
      · simp only [u_seq, u_region, u_block, w_op, evOp, us_val, us_call, us_panic, uc_ret, uc_pan, w_cond, ui_true, ui_false, w_opT, ust_val, ust_set, ust_call, uct_ret, w_guardT, ugt_tt, ugt_ff, ugt_tf, ugt_ft, u_draw, quietOp, w_guard, ug_tt, ug_ff, ug_tf, ug_ft, ug_no, ugt_no, nov, gd, w_loop, ul_some, u_ops_nil, u_skip, u_ret, u_exit, u_nil, u_code_ret, u_code_exit, u_code_panic, u_block_normal, u_block_ret, u_block_panic, u_block_exit, rho, putT, wr, b_add, b_sub, b_mul, b_eql, b_neq, b_lss, b_leq, b_gtr, b_geq, b_sadd, b_seql, b_sneq, oc_int, oc_bool, oc_str, oc_nilslice, oc_nilptr, oc_nilmap, oc_nilfunc, oc_nilface, bi_len, bi_max, bi_min, mx_nil, mx_one, frz_islice, frz_nilslice, frz_int, frz_bool, frz_str, List.getD_cons_zero, List.getD_cons_succ, List.set_cons_zero, List.set_cons_succ, List.map_cons, List.map_nil, Option.map_some, Option.map_none, Option.bind_some, Option.bind_none, List.length_nil, List.length_cons, List.nil_append, List.cons_append, List.append_nil, List.replicate_succ, List.replicate_zero, Nat.reduceAdd, Nat.reduceSub, Bool.false_eq_true, if_true, if_false, reduceIte, reduceCtorEq, List.getElem?_cons_zero, List.getElem?_cons_succ, List.getElem?_toArray]
        refine W.done (EndZ.ret rfl rfl ?_)
        have g5 := bne_iff_ne.1 g4
        have g6 : (List.count 1 (List.take 12 L) == 12) = false := beq_false_of_ne fun e => g5 (by rw [e]; rfl)
        show V.int .i64 8 = _
        rw [g3, g6]
        rfl
      · simp only [u_seq, u_region, u_block, w_op, evOp, us_val, us_call, us_panic, uc_ret, uc_pan, w_cond, ui_true, ui_false, w_opT, ust_val, ust_set, ust_call, uct_ret, w_guardT, ugt_tt, ugt_ff, ugt_tf, ugt_ft, u_draw, quietOp, w_guard, ug_tt, ug_ff, ug_tf, ug_ft, ug_no, ugt_no, nov, gd, w_loop, ul_some, u_ops_nil, u_skip, u_ret, u_exit, u_nil, u_code_ret, u_code_exit, u_code_panic, u_block_normal, u_block_ret, u_block_panic, u_block_exit, rho, putT, wr, b_add, b_sub, b_mul, b_eql, b_neq, b_lss, b_leq, b_gtr, b_geq, b_sadd, b_seql, b_sneq, oc_int, oc_bool, oc_str, oc_nilslice, oc_nilptr, oc_nilmap, oc_nilfunc, oc_nilface, bi_len, bi_max, bi_min, mx_nil, mx_one, frz_islice, frz_nilslice, frz_int, frz_bool, frz_str, List.getD_cons_zero, List.getD_cons_succ, List.set_cons_zero, List.set_cons_succ, List.map_cons, List.map_nil, Option.map_some, Option.map_none, Option.bind_some, Option.bind_none, List.length_nil, List.length_cons, List.nil_append, List.cons_append, List.append_nil, List.replicate_succ, List.replicate_zero, Nat.reduceAdd, Nat.reduceSub, Bool.false_eq_true, if_true, if_false, reduceIte, reduceCtorEq, List.getElem?_cons_zero, List.getElem?_cons_succ, List.getElem?_toArray]
        refine W.done (EndZ.ret rfl rfl ?_)
        have g5 : ((List.count 1 (List.take 12 L) : Nat) : Int) = 12 := by simpa using g4
        have g6 : (List.count 1 (List.take 12 L) == 12) = true := beq_iff_eq.2 (by omega)
        show V.int .i64 0 = _
        rw [g3, g6]
        rfl
    · have g2 : ¬ maxFrom b.toNat l' ≤ 2 := by have := of_decide_eq_true g1; omega
      have g3 : okTab L = false := by
        have : (L.all fun b => b ≤ 2) = false := Bool.eq_false_iff.2 fun h => g2 (e2.2 h)
        simp only [okTab, this, Bool.and_false, Bool.false_and]
      simp only [u_seq, u_region, u_block, w_op, evOp, us_val, us_call, us_panic, uc_ret, uc_pan, w_cond, ui_true, ui_false, w_opT, ust_val, ust_set, ust_call, uct_ret, w_guardT, ugt_tt, ugt_ff, ugt_tf, ugt_ft, u_draw, quietOp, w_guard, ug_tt, ug_ff, ug_tf, ug_ft, ug_no, ugt_no, nov, gd, w_loop, ul_some, u_ops_nil, u_skip, u_ret, u_exit, u_nil, u_code_ret, u_code_exit, u_code_panic, u_block_normal, u_block_ret, u_block_panic, u_block_exit, rho, putT, wr, b_add, b_sub, b_mul, b_eql, b_neq, b_lss, b_leq, b_gtr, b_geq, b_sadd, b_seql, b_sneq, oc_int, oc_bool, oc_str, oc_nilslice, oc_nilptr, oc_nilmap, oc_nilfunc, oc_nilface, bi_len, bi_max, bi_min, mx_nil, mx_one, frz_islice, frz_nilslice, frz_int, frz_bool, frz_str, List.getD_cons_zero, List.getD_cons_succ, List.set_cons_zero, List.set_cons_succ, List.map_cons, List.map_nil, Option.map_some, Option.map_none, Option.bind_some, Option.bind_none, List.length_nil, List.length_cons, List.nil_append, List.cons_append, List.append_nil, List.replicate_succ, List.replicate_zero, Nat.reduceAdd, Nat.reduceSub, Bool.false_eq_true, if_true, if_false, reduceIte, reduceCtorEq, List.getElem?_cons_zero, List.getElem?_cons_succ, List.getElem?_toArray, g1]
      refine W.done (EndZ.ret rfl rfl ?_)
      rw [g3]; rfl
  · have c1 : ((l.length : Int) != 256) = true := by simp; omega
    have e : okTab l = false := by simp [okTab, h1]
    simp only [u_seq, u_region, u_block, w_op, evOp, us_val, us_call, us_panic, uc_ret, uc_pan, w_cond, ui_true, ui_false, w_opT, ust_val, ust_set, ust_call, uct_ret, w_guardT, ugt_tt, ugt_ff, ugt_tf, ugt_ft, u_draw, quietOp, w_guard, ug_tt, ug_ff, ug_tf, ug_ft, ug_no, ugt_no, nov, gd, w_loop, ul_some, u_ops_nil, u_skip, u_ret, u_exit, u_nil, u_code_ret, u_code_exit, u_code_panic, u_block_normal, u_block_ret, u_block_panic, u_block_exit, rho, putT, wr, b_add, b_sub, b_mul, b_eql, b_neq, b_lss, b_leq, b_gtr, b_geq, b_sadd, b_seql, b_sneq, oc_int, oc_bool, oc_str, oc_nilslice, oc_nilptr, oc_nilmap, oc_nilfunc, oc_nilface, bi_len, bi_max, bi_min, mx_nil, mx_one, frz_islice, frz_nilslice, frz_int, frz_bool, frz_str, List.getD_cons_zero, List.getD_cons_succ, List.set_cons_zero, List.set_cons_succ, List.map_cons, List.map_nil, Option.map_some, Option.map_none, Option.bind_some, Option.bind_none, List.length_nil, List.length_cons, List.nil_append, List.cons_append, List.append_nil, List.replicate_succ, List.replicate_zero, Nat.reduceAdd, Nat.reduceSub, Bool.false_eq_true, if_true, if_false, reduceIte, reduceCtorEq, List.getElem?_cons_zero, List.getElem?_cons_succ, List.getElem?_toArray, c1]
    exact W.done (EndZ.ret rfl rfl (by rw [e]; rfl))
end Go.Proofs.YtpbhldhmjmfigaaDoor
