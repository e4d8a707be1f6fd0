/- space: New; Settle. -/
import Derived.Test.YtpbhldhmjmfigaaDoorT8
import Derived.Test.YtpbhldhmjmfigaaDoorAm33
set_option linter.unusedSimpArgs false
set_option linter.unusedVariables false
set_option maxRecDepth 100000
namespace Go.Proofs.YtpbhldhmjmfigaaDoor
open Go.AM
attribute [local irreducible] U W

theorem new_run : (callN Tryd.prog pol 60 9 [] []).map (fun x => match x.1 with | .ret v => frz (hget x.2) depth v | _ => none) = some (some (.islice (ofBytes newTab) 256 false)) := by kernel_rfl
theorem new_fz : Fz Tryd.prog pol 9 [] fun r => IsBytes r newTab := by
  have h := new_run
  cases hc : callN Tryd.prog pol 60 9 [] [] with
  | none => rw [hc] at h; cases h
  | some x =>
    obtain ⟨r, H'⟩ := x
    rw [hc] at h
    simp only [Option.map_some, Option.some.injEq] at h
    cases r with
    | ret v => exact ⟨v, H', _, callW_some.2 ⟨60, hc⟩, h, IsBytes.mk newTab false⟩
    | pan v => cases h

theorem op51 (C : AM.Call) (fn fr : Nat) (d : Option Nat) (H : Heap) (v : V) (l : List UInt8) (hv : IsBytes v l) (c : UInt8) :
    callOp pol C fn fr d 51 [v, .int .u8 c.toNat] H = some (.ret (.int .i64 (Lib.indexByte l c)), H) := by
  have e : pol.prim 51 = some primIndexByte := rfl
  simp only [callOp, e, primIndexByte, hv.bytesV, Option.map_some, wr]
  simp

theorem ixb_fz (v : V) (l : List UInt8) (c : UInt8) (hv : IsBytes v l) :
    Fz Tryd.prog pol 45 [v, .int .u8 c.toNat] fun r => r = .int .i64 (Lib.indexByte l c) := by
  refine fz_of Tryd.func45 rfl ?_
  have ct : ∀ d, _ := fun d => op51 (callW Tryd.prog pol) 45 0 d [[]] v l hv c
  simp only [u_seq, u_region, u_block, w_op, evOp, us_val, us_call, us_panic, uc_ret, uc_pan, w_cond, ui_true, ui_false, w_opT, ust_val, ust_set, ust_call, uct_ret, w_guardT, ugt_tt, ugt_ff, ugt_tf, ugt_ft, u_draw, quietOp, w_guard, ug_tt, ug_ff, ug_tf, ug_ft, ug_no, ugt_no, nov, gd, w_loop, ul_some, u_ops_nil, u_skip, u_ret, u_exit, u_nil, u_code_ret, u_code_exit, u_code_panic, u_block_normal, u_block_ret, u_block_panic, u_block_exit, rho, putT, wr, b_add, b_sub, b_mul, b_eql, b_neq, b_lss, b_leq, b_gtr, b_geq, b_sadd, b_seql, b_sneq, oc_int, oc_bool, oc_str, oc_nilslice, oc_nilptr, oc_nilmap, oc_nilfunc, oc_nilface, bi_len, bi_max, bi_min, mx_nil, mx_one, frz_islice, frz_nilslice, frz_int, frz_bool, frz_str, List.getD_cons_zero, List.getD_cons_succ, List.set_cons_zero, List.set_cons_succ, List.map_cons, List.map_nil, Option.map_some, Option.map_none, Option.bind_some, Option.bind_none, List.length_nil, List.length_cons, List.nil_append, List.cons_append, List.append_nil, List.replicate_succ, List.replicate_zero, Nat.reduceAdd, Nat.reduceSub, Bool.false_eq_true, if_true, if_false, reduceIte, reduceCtorEq, List.getElem?_cons_zero, List.getElem?_cons_succ, List.getElem?_toArray, Tryd.ntmps45, ct]
  exact W.done (EndZ.ret rfl rfl rfl)

theorem index_fz (v w : V) (l : List UInt8) (c : UInt8) (hv : IsBytes v l) (hw : IsBytes w [c]) :
    Fz Tryd.prog pol 40 [v, w] fun r => r = .int .i64 (Lib.indexByte l c) := by
  refine fz_of Tryd.func40 rfl ?_
  have len := hw.len Tryd.underlying26
  have at0 := hw.at (k := .i64) Tryd.underlying26 sz5 (by decide) (i := 0) (by omega) (by simp)
  have get0 : (ofBytes [c])[(0 : Int).toNat * 1]? = some (.int .u8 c.toNat) := rfl
  have c1 : ((([c] : List UInt8).length : Int) == 0) = false := rfl
  have c2 : ((([c] : List UInt8).length : Int) == 1) = true := rfl
  obtain ⟨m, rfl, hm⟩ := (ixb_fz v l c hv).op (by rfl) (frzL_cons (hv.frz _) rfl)
  have ct : ∀ d, callOp pol (callW Tryd.prog pol) 40 0 d 45 [v, .int .u8 c.toNat] [[]] = some (.ret (.int .i64 (Lib.indexByte l c)), [[]]) := fun d => hm _ _ d [[]] rfl
  generalize hn : ([c] : List UInt8).length = n at *
  simp only [u_seq, u_region, u_block, w_op, evOp, us_val, us_call, us_panic, uc_ret, uc_pan, w_cond, ui_true, ui_false, w_opT, ust_val, ust_set, ust_call, uct_ret, w_guardT, ugt_tt, ugt_ff, ugt_tf, ugt_ft, u_draw, quietOp, w_guard, ug_tt, ug_ff, ug_tf, ug_ft, ug_no, ugt_no, nov, gd, w_loop, ul_some, u_ops_nil, u_skip, u_ret, u_exit, u_nil, u_code_ret, u_code_exit, u_code_panic, u_block_normal, u_block_ret, u_block_panic, u_block_exit, rho, putT, wr, b_add, b_sub, b_mul, b_eql, b_neq, b_lss, b_leq, b_gtr, b_geq, b_sadd, b_seql, b_sneq, oc_int, oc_bool, oc_str, oc_nilslice, oc_nilptr, oc_nilmap, oc_nilfunc, oc_nilface, bi_len, bi_max, bi_min, mx_nil, mx_one, frz_islice, frz_nilslice, frz_int, frz_bool, frz_str, List.getD_cons_zero, List.getD_cons_succ, List.set_cons_zero, List.set_cons_succ, List.map_cons, List.map_nil, Option.map_some, Option.map_none, Option.bind_some, Option.bind_none, List.length_nil, List.length_cons, List.nil_append, List.cons_append, List.append_nil, List.replicate_succ, List.replicate_zero, Nat.reduceAdd, Nat.reduceSub, Bool.false_eq_true, if_true, if_false, reduceIte, reduceCtorEq, List.getElem?_cons_zero, List.getElem?_cons_succ, List.getElem?_toArray, Tryd.ntmps40, len, at0, rd5, get0, c1, c2, ct]
  exact W.done (EndZ.ret rfl rfl rfl)
end Go.Proofs.YtpbhldhmjmfigaaDoor
