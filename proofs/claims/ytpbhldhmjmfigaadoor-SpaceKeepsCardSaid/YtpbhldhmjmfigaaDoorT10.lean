/- space: bytes.Replace of one byte by another, ReplaceAll, Settle. -/
import Derived.Test.YtpbhldhmjmfigaaDoorT9
set_option linter.unusedSimpArgs false
set_option linter.unusedVariables false
set_option maxRecDepth 100000
namespace Go.Proofs.YtpbhldhmjmfigaaDoor
open Go.AM
attribute [local irreducible] U W

theorem indexByte_in : ∀ (l : List UInt8) (c : UInt8), 0 < l.count c → ∃ k : Nat, k < l.length ∧ Lib.indexByte l c = k ∧ l[k]? = some c ∧ (l.take k).count c = 0
  | [], c, h => by simp at h
  | b :: l, c, h => by
    by_cases hb : b = c
    · exact ⟨0, by simp, by simp [Lib.indexByte, hb], by simp [hb], by simp⟩
    · have h' : 0 < l.count c := by rw [List.count_cons] at h; simpa [hb] using h
      obtain ⟨k, h1, h2, h3, h4⟩ := indexByte_in l c h'
      refine ⟨k + 1, by simp; omega, ?_, by simpa using h3, ?_⟩
      · simp only [Lib.indexByte, h2]
        rw [if_neg (by simpa using hb), if_neg (by simp)]
        rfl
      · rw [List.take_succ_cons, List.count_cons, h4]; simp [hb]

def mid (l : List UInt8) (s : Nat) : List UInt8 := settled (l.take s) ++ List.replicate (256 - s) 0
theorem mid_len (l : List UInt8) (s : Nat) (h : s ≤ l.length) (hl : l.length = 256) : (mid l s).length = 256 := by
  simp [mid, settled]; omega
theorem settled_none (l : List UInt8) (h : l.count 2 = 0) : settled l = l := by
  unfold settled
  conv => rhs; rw [← List.map_id l]
  apply List.map_congr_left
  intro b hb
  rw [if_neg]
  · rfl
  · rintro rfl
    rw [List.count_eq_zero] at h
    exact h hb
theorem put_gen (A B R : List UInt8) (n : Nat) (h : (A ++ B).length = n) : (A ++ B ++ R).take n ++ [0] ++ (A ++ B ++ R).drop (n + 1) = A ++ B ++ [0] ++ R.drop 1 := by
  rw [List.take_append_of_le_length (by omega), List.take_of_length_le (by omega), List.drop_append, List.drop_eq_nil_of_le (by omega), h, List.nil_append, show n + 1 - n = 1 by omega]
theorem settled_len (l : List UInt8) : (settled l).length = l.length := by simp [settled]
theorem settled_app (l m : List UInt8) : settled (l ++ m) = settled l ++ settled m := by simp [settled]
theorem mid_take (l : List UInt8) (s : Nat) (hs : s ≤ l.length) : (mid l s).take s = settled (l.take s) := by
  rw [mid, List.take_append_of_le_length (by rw [settled_len, List.length_take]; omega), List.take_of_length_le (by rw [settled_len, List.length_take]; omega)]
theorem mid_drop (l : List UInt8) (s k : Nat) (hs : s ≤ l.length) : (mid l s).drop (s + k) = List.replicate (256 - (s + k)) 0 := by
  have : (settled (l.take s)).length = s := by rw [settled_len, List.length_take]; omega
  rw [mid, List.drop_append, List.drop_eq_nil_of_le (by omega), this, List.drop_replicate, List.nil_append]
  congr 1; omega
theorem mid_step (l : List UInt8) (s k : Nat) (hl : l.length = 256) (hk : s + k < 256) (h2 : l[s + k]? = some 2) (h0 : ((l.drop s).take k).count 2 = 0) :
    ((mid l s).take s ++ (l.drop s).take k ++ (mid l s).drop (s + k)).take (s + k) ++ [0] ++ ((mid l s).take s ++ (l.drop s).take k ++ (mid l s).drop (s + k)).drop (s + k + 1) = mid l (s + k + 1) := by
  rw [mid_take l s (by omega), mid_drop l s k (by omega), put_gen]
  · have e3 : l.take (s + k + 1) = l.take s ++ (l.drop s).take k ++ [2] := by
      rw [List.take_add_one, h2, List.take_add]
      rfl
    rw [mid, e3, settled_app, settled_app, settled_none _ h0, List.drop_replicate]
    congr 2
  · rw [List.length_append, settled_len, List.length_take, List.length_take, List.length_drop]; omega
theorem mid_end (l : List UInt8) (s : Nat) (hl : l.length = 256) (hs : s ≤ 256) (h0 : (l.drop s).count 2 = 0) : (mid l s).take s ++ (l.drop s).take (256 - s) ++ (mid l s).drop (s + (256 - s)) = settled l := by
  have hm := mid_len l s (by omega) hl
  have e1 : (mid l s).drop (s + (256 - s)) = [] := List.drop_eq_nil_of_le (by omega)
  have e2 : (l.drop s).take (256 - s) = l.drop s := List.take_of_length_le (by rw [List.length_drop]; omega)
  rw [mid_take l s (by omega), e1, e2, List.append_nil]
  conv => lhs; rw [← settled_none _ h0, ← settled_app, List.take_append_drop]

theorem replace_cw (v o w : V) (l : List UInt8) (hv : IsBytes v l) (ho : IsBytes o [2]) (hw : IsBytes w [0]) (hl : l.length = 256) (H : Heap) (hH : WF H) :
    CW Tryd.prog pol 37 [v, o, w, .int .i64 (-1)] H fun r H' => ∃ x, r = .ret x ∧ Own H H' x (settled l) := by
  refine cw_of Tryd.func37 rfl ?_
  obtain ⟨m, rfl, hm⟩ := (count_fz v o l 2 hv ho).op (by rfl) (frzL_cons (hv.frz _) (frzL_cons (ho.frz _) rfl))
  have hm' : ∀ d, _ := fun d => hm 37 H.length d (H ++ [[]]) rfl
  have lenv : ∀ g, lenV Tryd.prog g 26 v = some (.int .i64 256) := fun g => by rw [hv.len Tryd.underlying26, hl]; rfl
  have leno : ∀ g, lenV Tryd.prog g 26 o = some (.int .i64 1) := fun g => ho.len Tryd.underlying26 g
  have lenw : ∀ g, lenV Tryd.prog g 26 w = some (.int .i64 1) := fun g => hw.len Tryd.underlying26 g
  have c0 : ((-1 : Int) != 0) = true := rfl
  simp only [u_seq, u_region, u_block, w_op, evOp, us_val, us_call, us_panic, uc_ret, uc_pan, w_cond, ui_true, ui_false, w_opT, ust_val, ust_set, ust_call, uct_ret, w_guardT, ugt_tt, ugt_ff, ugt_tf, ugt_ft, u_draw, quietOp, w_guard, ug_tt, ug_ff, ug_tf, ug_ft, ug_no, ugt_no, nov, gd, w_loop, ul_some, u_ops_nil, u_skip, u_ret, u_exit, u_nil, u_code_ret, u_code_exit, u_code_panic, u_block_normal, u_block_ret, u_block_panic, u_block_exit, rho, putT, wr, b_add, b_sub, b_mul, b_eql, b_neq, b_lss, b_leq, b_gtr, b_geq, b_sadd, b_seql, b_sneq, oc_int, oc_bool, oc_str, oc_nilslice, oc_nilptr, oc_nilmap, oc_nilfunc, oc_nilface, bi_len, bi_max, bi_min, mx_nil, mx_one, frz_islice, frz_nilslice, frz_int, frz_bool, frz_str, List.getD_cons_zero, List.getD_cons_succ, List.set_cons_zero, List.set_cons_succ, List.map_cons, List.map_nil, Option.map_some, Option.map_none, Option.bind_some, Option.bind_none, List.length_nil, List.length_cons, List.nil_append, List.cons_append, List.append_nil, List.replicate_succ, List.replicate_zero, Nat.reduceAdd, Nat.reduceSub, Bool.false_eq_true, if_true, if_false, reduceIte, reduceCtorEq, List.getElem?_cons_zero, List.getElem?_cons_succ, List.getElem?_toArray, Tryd.ntmps37, hm', c0]
  by_cases h0 : l.count 2 = 0
  · have c1 : (((l.count 2 : Nat) : Int) == 0) = true := by rw [h0]; rfl
    have ap : appendV Tryd.prog (pol.mt 37) H.length (hget (H ++ [[]])) (some 25) 26 26 .nilslice v = some (.val (.mslice H.length 25 0 l.length none 1) (some (H.length, 25, .cells (ofBytes l)))) := by
      rw [app_nil Tryd.underlying26 sz5 by8 zc5 rfl Tryd.underlying26 (IsSl.sc hv) (by omega) (roomy_of (by omega) (by omega)), grown_mt rfl (scalar_ofBytes l) (by rw [hget_app0]; rfl)]
    simp only [u_seq, u_region, u_block, w_op, evOp, us_val, us_call, us_panic, uc_ret, uc_pan, w_cond, ui_true, ui_false, w_opT, ust_val, ust_set, ust_call, uct_ret, w_guardT, ugt_tt, ugt_ff, ugt_tf, ugt_ft, u_draw, quietOp, w_guard, ug_tt, ug_ff, ug_tf, ug_ft, ug_no, ugt_no, nov, gd, w_loop, ul_some, u_ops_nil, u_skip, u_ret, u_exit, u_nil, u_code_ret, u_code_exit, u_code_panic, u_block_normal, u_block_ret, u_block_panic, u_block_exit, rho, putT, wr, b_add, b_sub, b_mul, b_eql, b_neq, b_lss, b_leq, b_gtr, b_geq, b_sadd, b_seql, b_sneq, oc_int, oc_bool, oc_str, oc_nilslice, oc_nilptr, oc_nilmap, oc_nilfunc, oc_nilface, bi_len, bi_max, bi_min, mx_nil, mx_one, frz_islice, frz_nilslice, frz_int, frz_bool, frz_str, List.getD_cons_zero, List.getD_cons_succ, List.set_cons_zero, List.set_cons_succ, List.map_cons, List.map_nil, Option.map_some, Option.map_none, Option.bind_some, Option.bind_none, List.length_nil, List.length_cons, List.nil_append, List.cons_append, List.append_nil, List.replicate_succ, List.replicate_zero, Nat.reduceAdd, Nat.reduceSub, Bool.false_eq_true, if_true, if_false, reduceIte, reduceCtorEq, List.getElem?_cons_zero, List.getElem?_cons_succ, List.getElem?_toArray, c1, bi_append, ap, new, hget_app, hget_app0, hset_app, hset_app0, hset_zero, hget_zero, hset_succ, hget_succ, fget, fset, Nat.reduceLT, Nat.reduceEqDiff, Nat.lt_irrefl, Nat.not_lt_zero, Nat.lt_add_one, fset_nil]
    refine W.done (End.ret (v := .mslice H.length 25 0 l.length none 1) rfl ⟨_, rfl, ?_⟩)
    rw [popF_keep (by simp [V.refs])]
    rw [settled_none l h0]
    refine ⟨_, rfl, hH.app ?_, .inr ⟨H.length, 25, none, rfl, by omega, by simp, by rw [hget_app0]; rfl⟩⟩
    simp [clearH, clearF, O.refs, refsL_ofBytes]
  have c1 : (((l.count 2 : Nat) : Int) == 0) = false := beq_false_of_ne (by omega)
  have c2 : decide ((-1 : Int) < 0) = true := rfl
  have a1 : (IntKind.i64).wrap ((1 : Int) - 1) = 0 := rfl
  have lc : l.count 2 ≤ 256 := by have := List.count_le_length (a := 2) (l := l); omega
  have a2 : (IntKind.i64).wrap (((l.count 2 : Nat) : Int) * 0) = 0 := by rw [Int.mul_zero]; rfl
  have a3 : (IntKind.i64).wrap ((256 : Int) + 0) = 256 := rfl
  have mk : zerosN [V.int .u8 0] 256 = ofBytes (mid l 0) := by rw [zerosN_byte]; rfl
  have rm : roomy 256 1 = true := rfl
  have c4 : decide ((1 : Int) > 0) = true := rfl
  simp only [u_seq, u_region, u_block, w_op, evOp, us_val, us_call, us_panic, uc_ret, uc_pan, w_cond, ui_true, ui_false, w_opT, ust_val, ust_set, ust_call, uct_ret, w_guardT, ugt_tt, ugt_ff, ugt_tf, ugt_ft, u_draw, quietOp, w_guard, ug_tt, ug_ff, ug_tf, ug_ft, ug_no, ugt_no, nov, gd, w_loop, ul_some, u_ops_nil, u_skip, u_ret, u_exit, u_nil, u_code_ret, u_code_exit, u_code_panic, u_block_normal, u_block_ret, u_block_panic, u_block_exit, rho, putT, wr, b_add, b_sub, b_mul, b_eql, b_neq, b_lss, b_leq, b_gtr, b_geq, b_sadd, b_seql, b_sneq, oc_int, oc_bool, oc_str, oc_nilslice, oc_nilptr, oc_nilmap, oc_nilfunc, oc_nilface, bi_len, bi_max, bi_min, mx_nil, mx_one, frz_islice, frz_nilslice, frz_int, frz_bool, frz_str, List.getD_cons_zero, List.getD_cons_succ, List.set_cons_zero, List.set_cons_succ, List.map_cons, List.map_nil, Option.map_some, Option.map_none, Option.bind_some, Option.bind_none, List.length_nil, List.length_cons, List.nil_append, List.cons_append, List.append_nil, List.replicate_succ, List.replicate_zero, Nat.reduceAdd, Nat.reduceSub, Bool.false_eq_true, if_true, if_false, reduceIte, reduceCtorEq, List.getElem?_cons_zero, List.getElem?_cons_succ, List.getElem?_toArray, c1, c2, lenv, leno, lenw, a1, a2, a3, Tryd.underlying26, sz5, by8, zc5, rm, Int.reduceLE, Int.reduceToNat, and_self, List.length_singleton, mk, c4, new, hget_app, hget_app0, hset_app, hset_app0, hset_zero, hget_zero, hset_succ, hget_succ, fget, fset, Nat.reduceLT, Nat.reduceEqDiff, Nat.lt_irrefl, Nat.not_lt_zero, Nat.lt_add_one, fset_nil]
  refine W.ul ?_
  generalize hS : V.mslice H.length 44 0 256 (some 256) 1 = S
  refine W.loopS (kt := [0, 1, 2, 10, 11, 12, 48, 49]) rfl (fun a : Nat × Nat => st37_13 v o w S (.int .i64 a.2) (.int .i64 a.2) (.int .i64 (l.count 2 : Nat)) (.int .i64 a.1)) (fun a => H ++ [[(44, .cells (ofBytes (mid l a.2)))]])
    (fun a => a.2 ≤ 256 ∧ (l.drop a.2).count 2 + a.1 = l.count 2) (fun a => l.count 2 - a.1) ?_ (0, 0) ⟨by simp, by simp⟩ rfl rfl
  subst hS
  rintro ⟨i, s⟩ ⟨hs, hc⟩
  simp only at hs hc
  simp only [st37_13]
  by_cases h : i < l.count 2
  · have c5 : decide ((i : Int) < ((l.count 2 : Nat) : Int)) = true := decide_eq_true (by omega)
    obtain ⟨k, k1, k2, k3, k4⟩ := indexByte_in (l.drop s) 2 (by omega)
    have hsk : s + k < 256 := by simp at k1; omega
    obtain ⟨u, hu1, hu2⟩ := hv.cut Tryd.underlying26 sz5 (some (s : Int)) none (by simp) (by simp; omega) (by simp)
    simp only [Option.map_some, Option.map_none] at hu1
    simp only [Option.getD_some, Option.getD_none, Int.toNat_natCast] at hu2
    rw [List.take_of_length_le (by simp)] at hu2
    obtain ⟨m, rfl, hx⟩ := (index_fz u o _ 2 hu2 ho).op (by rfl) (frzL_cons (hu2.frz _) (frzL_cons (ho.frz _) rfl))
    have hx' : ∀ d, _ := fun d => hx 37 H.length d (H ++ [[(44, .cells (ofBytes (mid l s)))]]) rfl
    rw [k2] at hx'
    have a4 : (IntKind.i64).wrap ((s : Int) + (k : Int)) = ((s + k : Nat) : Int) := by rw [wrap_i64] <;> omega
    have a5 : (IntKind.i64).wrap (((s + k : Nat) : Int) + 1) = ((s + k + 1 : Nat) : Int) := by rw [wrap_i64] <;> omega
    have a6 := wrap_add1 (i := i) (by omega)
    obtain ⟨x, hx1, hx2⟩ := hv.cut Tryd.underlying26 sz5 (some (s : Int)) (some ((s + k : Nat) : Int)) (by simp) (by simp; omega) (by simp; omega)
    simp only [Option.map_some] at hx1
    simp only [Option.getD_some, Int.toNat_natCast] at hx2
    rw [show s + k - s = k by omega] at hx2
    have sk : ((l.drop s).take k).length = k := by simp; omega
    have f1 := cut_from (P := Tryd.prog) Tryd.underlying26 sz5 (f := H.length) (s := 44) (o := 0) (len := 256) (c := 256) (w := s) (k := .i64) (by omega) (by omega)
    rw [if_neg (by omega), show 0 + s * 1 = s by omega] at f1
    have f2 := cut_from (P := Tryd.prog) Tryd.underlying26 sz5 (f := H.length) (s := 44) (o := 0) (len := 256) (c := 256) (w := s + k) (k := .i64) (by omega) (by omega)
    rw [if_neg (by omega), show 0 + (s + k) * 1 = s + k by omega] at f2
    have ml := mid_len l s (by omega) hl
    have g1 : ∀ X, hget (H ++ [[(44, O.cells (ofBytes X))]]) H.length 44 = some (.cells (ofBytes X)) := fun X => by rw [hget_app0]; rfl
    have s1 : ∀ X Y, hset (H ++ [[(44, O.cells (ofBytes X))]]) H.length 44 (.cells (ofBytes Y)) = H ++ [[(44, .cells (ofBytes Y))]] := fun X Y => by rw [hset_app0]; rfl
    have p1 := copy_bytes (P := Tryd.prog) (u := 26) (e := 5) Tryd.underlying26 sz5 (cap := some (256 - s)) (g1 (mid l s)) (o := s) (n := 256 - s) (by omega) (IsSl.sc hx2) hx2.notStr
    have tk : ((l.drop s).take k).take k = (l.drop s).take k := List.take_of_length_le (by omega)
    rw [sk, show min k (256 - s) = k by omega, tk] at p1
    generalize hX : (mid l s).take s ++ (l.drop s).take k ++ (mid l s).drop (s + k) = X at p1
    have xl : X.length = 256 := by rw [← hX]; simp only [List.length_append, List.length_take, List.length_drop, ml, hl]; omega
    have p2 := copy_bytes (P := Tryd.prog) (u := 26) (e := 5) Tryd.underlying26 sz5 (cap := some (256 - (s + k))) (g1 X) (o := s + k) (n := 256 - (s + k)) (by omega) (IsSl.sc hw) hw.notStr
    rw [show min ([0] : List UInt8).length (256 - (s + k)) = 1 by simp; omega, show ([0] : List UInt8).take 1 = [0] from rfl] at p2
    have mst := mid_step l s k hl hsk (by simpa using k3) k4
    rw [hX] at mst
    rw [mst] at p2
    have id1 := hv.id?
    have id3 := hx2.id?
    have cast1 : (((1 : Nat) : Int)) = 1 := rfl
    rw [cast1] at p2
    simp only [u_seq, u_region, u_block, w_op, evOp, us_val, us_call, us_panic, uc_ret, uc_pan, w_cond, ui_true, ui_false, w_opT, ust_val, ust_set, ust_call, uct_ret, w_guardT, ugt_tt, ugt_ff, ugt_tf, ugt_ft, u_draw, quietOp, w_guard, ug_tt, ug_ff, ug_tf, ug_ft, ug_no, ugt_no, nov, gd, w_loop, ul_some, u_ops_nil, u_skip, u_ret, u_exit, u_nil, u_code_ret, u_code_exit, u_code_panic, u_block_normal, u_block_ret, u_block_panic, u_block_exit, rho, putT, wr, b_add, b_sub, b_mul, b_eql, b_neq, b_lss, b_leq, b_gtr, b_geq, b_sadd, b_seql, b_sneq, oc_int, oc_bool, oc_str, oc_nilslice, oc_nilptr, oc_nilmap, oc_nilfunc, oc_nilface, bi_len, bi_max, bi_min, mx_nil, mx_one, frz_islice, frz_nilslice, frz_int, frz_bool, frz_str, List.getD_cons_zero, List.getD_cons_succ, List.set_cons_zero, List.set_cons_succ, List.map_cons, List.map_nil, Option.map_some, Option.map_none, Option.bind_some, Option.bind_none, List.length_nil, List.length_cons, List.nil_append, List.cons_append, List.append_nil, List.replicate_succ, List.replicate_zero, Nat.reduceAdd, Nat.reduceSub, Bool.false_eq_true, if_true, if_false, reduceIte, reduceCtorEq, List.getElem?_cons_zero, List.getElem?_cons_succ, List.getElem?_toArray, c5, hu1, hx', a4, f1, hx1, bi_copy, p1, s1]
    refine W.opsK ?_ ?_
    · kernel_rfl
    simp only [u_seq, u_region, u_block, w_op, evOp, us_val, us_call, us_panic, uc_ret, uc_pan, w_cond, ui_true, ui_false, w_opT, ust_val, ust_set, ust_call, uct_ret, w_guardT, ugt_tt, ugt_ff, ugt_tf, ugt_ft, u_draw, quietOp, w_guard, ug_tt, ug_ff, ug_tf, ug_ft, ug_no, ugt_no, nov, gd, w_loop, ul_some, u_ops_nil, u_skip, u_ret, u_exit, u_nil, u_code_ret, u_code_exit, u_code_panic, u_block_normal, u_block_ret, u_block_panic, u_block_exit, rho, putT, wr, b_add, b_sub, b_mul, b_eql, b_neq, b_lss, b_leq, b_gtr, b_geq, b_sadd, b_seql, b_sneq, oc_int, oc_bool, oc_str, oc_nilslice, oc_nilptr, oc_nilmap, oc_nilfunc, oc_nilface, bi_len, bi_max, bi_min, mx_nil, mx_one, frz_islice, frz_nilslice, frz_int, frz_bool, frz_str, List.getD_cons_zero, List.getD_cons_succ, List.set_cons_zero, List.set_cons_succ, List.map_cons, List.map_nil, Option.map_some, Option.map_none, Option.bind_some, Option.bind_none, List.length_nil, List.length_cons, List.nil_append, List.cons_append, List.append_nil, List.replicate_succ, List.replicate_zero, Nat.reduceAdd, Nat.reduceSub, Bool.false_eq_true, if_true, if_false, reduceIte, reduceCtorEq, List.getElem?_cons_zero, List.getElem?_cons_succ, List.getElem?_toArray, a4, f2, bi_copy, p2, s1, leno, a5, a6]
    exact W.done ⟨(i + 1, s + k + 1), rfl, rfl, ⟨by simp only; omega, by
      simp only
      have := List.count_append (a := (2 : UInt8)) (l₁ := (l.drop s).take (k + 1)) (l₂ := (l.drop s).drop (k + 1))
      rw [List.take_append_drop, List.drop_drop] at this
      have e : ((l.drop s).take (k + 1)).count 2 = 1 := by rw [List.take_add_one, k3, List.count_append, k4]; rfl
      rw [show s + k + 1 = s + (k + 1) by omega]
      omega⟩, by simp only; omega⟩
  · have c5 : decide ((i : Int) < ((l.count 2 : Nat) : Int)) = false := decide_eq_false (by omega)
    have hz : (l.drop s).count 2 = 0 := by omega
    obtain ⟨u, hu1, hu2⟩ := hv.cut Tryd.underlying26 sz5 (some (s : Int)) none (by simp) (by simp; omega) (by simp)
    simp only [Option.map_some, Option.map_none] at hu1
    simp only [Option.getD_some, Option.getD_none, Int.toNat_natCast] at hu2
    rw [List.take_of_length_le (by simp)] at hu2
    have f1 := cut_from (P := Tryd.prog) Tryd.underlying26 sz5 (f := H.length) (s := 44) (o := 0) (len := 256) (c := 256) (w := s) (k := .i64) (by omega) (by omega)
    have ml := mid_len l s (by omega) hl
    have g1 : ∀ X, hget (H ++ [[(44, O.cells (ofBytes X))]]) H.length 44 = some (.cells (ofBytes X)) := fun X => by rw [hget_app0]; rfl
    have s1 : ∀ X Y, hset (H ++ [[(44, O.cells (ofBytes X))]]) H.length 44 (.cells (ofBytes Y)) = H ++ [[(44, .cells (ofBytes Y))]] := fun X Y => by rw [hset_app0]; rfl
    have dl : (l.drop s).length = 256 - s := by rw [List.length_drop, hl]
    have p1 : copyV Tryd.prog (hget (H ++ [[(44, O.cells (ofBytes (mid l s)))]])) 26 (.mslice H.length 44 (if 256 = s then 0 else 0 + s * 1) (256 - s) (some (256 - s)) 1) u =
        some (.val (.int .i64 (256 - s : Nat)) (some (H.length, 44, .cells (ofBytes (settled l))))) := by
      by_cases h256 : 256 = s
      · subst h256
        rw [if_pos rfl, copy_bytes Tryd.underlying26 sz5 (g1 (mid l 256)) (by omega) (IsSl.sc hu2) hu2.notStr]
        have e : mid l 256 = settled l := by rw [mid, List.take_of_length_le (by omega)]; simp
        simp [e]
      · rw [if_neg h256, show 0 + s * 1 = s by omega, copy_bytes Tryd.underlying26 sz5 (g1 (mid l s)) (by omega) (IsSl.sc hu2) hu2.notStr, dl, show min (256 - s) (256 - s) = 256 - s by omega, mid_end l s hl hs hz]
    have f2 := cut_to (P := Tryd.prog) Tryd.underlying26 sz5 (f := H.length) (s := 44) (o := 0) (len := 256) (c := 256) (w := 256) (k := .i64) (k' := .i64) (by omega) (by omega) (by omega)
    have a4 : (IntKind.i64).wrap ((s : Int) + ((256 - s : Nat) : Int)) = ((256 : Nat) : Int) := by rw [wrap_i64] <;> omega
    have id3 := hu2.id?
    simp only [u_seq, u_region, u_block, w_op, evOp, us_val, us_call, us_panic, uc_ret, uc_pan, w_cond, ui_true, ui_false, w_opT, ust_val, ust_set, ust_call, uct_ret, w_guardT, ugt_tt, ugt_ff, ugt_tf, ugt_ft, u_draw, quietOp, w_guard, ug_tt, ug_ff, ug_tf, ug_ft, ug_no, ugt_no, nov, gd, w_loop, ul_some, u_ops_nil, u_skip, u_ret, u_exit, u_nil, u_code_ret, u_code_exit, u_code_panic, u_block_normal, u_block_ret, u_block_panic, u_block_exit, rho, putT, wr, b_add, b_sub, b_mul, b_eql, b_neq, b_lss, b_leq, b_gtr, b_geq, b_sadd, b_seql, b_sneq, oc_int, oc_bool, oc_str, oc_nilslice, oc_nilptr, oc_nilmap, oc_nilfunc, oc_nilface, bi_len, bi_max, bi_min, mx_nil, mx_one, frz_islice, frz_nilslice, frz_int, frz_bool, frz_str, List.getD_cons_zero, List.getD_cons_succ, List.set_cons_zero, List.set_cons_succ, List.map_cons, List.map_nil, Option.map_some, Option.map_none, Option.bind_some, Option.bind_none, List.length_nil, List.length_cons, List.nil_append, List.cons_append, List.append_nil, List.replicate_succ, List.replicate_zero, Nat.reduceAdd, Nat.reduceSub, Bool.false_eq_true, if_true, if_false, reduceIte, reduceCtorEq, List.getElem?_cons_zero, List.getElem?_cons_succ, List.getElem?_toArray, c5]
    refine W.done ?_
    simp only [u_seq, u_region, u_block, w_op, evOp, us_val, us_call, us_panic, uc_ret, uc_pan, w_cond, ui_true, ui_false, w_opT, ust_val, ust_set, ust_call, uct_ret, w_guardT, ugt_tt, ugt_ff, ugt_tf, ugt_ft, u_draw, quietOp, w_guard, ug_tt, ug_ff, ug_tf, ug_ft, ug_no, ugt_no, nov, gd, w_loop, ul_some, u_ops_nil, u_skip, u_ret, u_exit, u_nil, u_code_ret, u_code_exit, u_code_panic, u_block_normal, u_block_ret, u_block_panic, u_block_exit, rho, putT, wr, b_add, b_sub, b_mul, b_eql, b_neq, b_lss, b_leq, b_gtr, b_geq, b_sadd, b_seql, b_sneq, oc_int, oc_bool, oc_str, oc_nilslice, oc_nilptr, oc_nilmap, oc_nilfunc, oc_nilface, bi_len, bi_max, bi_min, mx_nil, mx_one, frz_islice, frz_nilslice, frz_int, frz_bool, frz_str, List.getD_cons_zero, List.getD_cons_succ, List.set_cons_zero, List.set_cons_succ, List.map_cons, List.map_nil, Option.map_some, Option.map_none, Option.bind_some, Option.bind_none, List.length_nil, List.length_cons, List.nil_append, List.cons_append, List.append_nil, List.replicate_succ, List.replicate_zero, Nat.reduceAdd, Nat.reduceSub, Bool.false_eq_true, if_true, if_false, reduceIte, reduceCtorEq, List.getElem?_cons_zero, List.getElem?_cons_succ, List.getElem?_toArray, f1, hu1, bi_copy, p1, s1]
    refine W.opsK ?_ ?_
    · kernel_rfl
    simp only [u_seq, u_region, u_block, w_op, evOp, us_val, us_call, us_panic, uc_ret, uc_pan, w_cond, ui_true, ui_false, w_opT, ust_val, ust_set, ust_call, uct_ret, w_guardT, ugt_tt, ugt_ff, ugt_tf, ugt_ft, u_draw, quietOp, w_guard, ug_tt, ug_ff, ug_tf, ug_ft, ug_no, ugt_no, nov, gd, w_loop, ul_some, u_ops_nil, u_skip, u_ret, u_exit, u_nil, u_code_ret, u_code_exit, u_code_panic, u_block_normal, u_block_ret, u_block_panic, u_block_exit, rho, putT, wr, b_add, b_sub, b_mul, b_eql, b_neq, b_lss, b_leq, b_gtr, b_geq, b_sadd, b_seql, b_sneq, oc_int, oc_bool, oc_str, oc_nilslice, oc_nilptr, oc_nilmap, oc_nilfunc, oc_nilface, bi_len, bi_max, bi_min, mx_nil, mx_one, frz_islice, frz_nilslice, frz_int, frz_bool, frz_str, List.getD_cons_zero, List.getD_cons_succ, List.set_cons_zero, List.set_cons_succ, List.map_cons, List.map_nil, Option.map_some, Option.map_none, Option.bind_some, Option.bind_none, List.length_nil, List.length_cons, List.nil_append, List.cons_append, List.append_nil, List.replicate_succ, List.replicate_zero, Nat.reduceAdd, Nat.reduceSub, Bool.false_eq_true, if_true, if_false, reduceIte, reduceCtorEq, List.getElem?_cons_zero, List.getElem?_cons_succ, List.getElem?_toArray, a4, f2]
    refine W.done (End.ret (v := .mslice H.length 44 0 256 (some 256) 1) rfl ⟨_, rfl, ?_⟩)
    rw [popF_keep (by simp [V.refs])]
    refine ⟨_, rfl, hH.app ?_, .inr ⟨H.length, 44, some 256, by rw [settled_len, hl], by omega, by simp, by rw [hget_app0]; rfl⟩⟩
    simp [clearH, clearF, O.refs, refsL_ofBytes]

theorem replaceAll_cw (v o w : V) (l : List UInt8) (hv : IsBytes v l) (ho : IsBytes o [2]) (hw : IsBytes w [0]) (hl : l.length = 256) (H : Heap) (hH : WF H) :
    CW Tryd.prog pol 27 [v, o, w] H fun r H' => ∃ x, r = .ret x ∧ Own H H' x (settled l) := by
  refine cw_of Tryd.func27 rfl ?_
  have wf : WF (H ++ [[]]) := hH.app rfl
  obtain ⟨r, H', f1, x, rfl, G, rfl, hw1, ho1⟩ := replace_cw v o w l hv ho hw hl (H ++ [[]]) wf
  have f1' : ∀ d, _ := fun d => callOp_in (fn := 27) (fr := H.length) (d := d) (pol := pol) rfl rfl rfl f1
  simp only [u_seq, u_region, u_block, w_op, evOp, us_val, us_call, us_panic, uc_ret, uc_pan, w_cond, ui_true, ui_false, w_opT, ust_val, ust_set, ust_call, uct_ret, w_guardT, ugt_tt, ugt_ff, ugt_tf, ugt_ft, u_draw, quietOp, w_guard, ug_tt, ug_ff, ug_tf, ug_ft, ug_no, ugt_no, nov, gd, w_loop, ul_some, u_ops_nil, u_skip, u_ret, u_exit, u_nil, u_code_ret, u_code_exit, u_code_panic, u_block_normal, u_block_ret, u_block_panic, u_block_exit, rho, putT, wr, b_add, b_sub, b_mul, b_eql, b_neq, b_lss, b_leq, b_gtr, b_geq, b_sadd, b_seql, b_sneq, oc_int, oc_bool, oc_str, oc_nilslice, oc_nilptr, oc_nilmap, oc_nilfunc, oc_nilface, bi_len, bi_max, bi_min, mx_nil, mx_one, frz_islice, frz_nilslice, frz_int, frz_bool, frz_str, List.getD_cons_zero, List.getD_cons_succ, List.set_cons_zero, List.set_cons_succ, List.map_cons, List.map_nil, Option.map_some, Option.map_none, Option.bind_some, Option.bind_none, List.length_nil, List.length_cons, List.nil_append, List.cons_append, List.append_nil, List.replicate_succ, List.replicate_zero, Nat.reduceAdd, Nat.reduceSub, Bool.false_eq_true, if_true, if_false, reduceIte, reduceCtorEq, List.getElem?_cons_zero, List.getElem?_cons_succ, List.getElem?_toArray, Tryd.ntmps27, f1']
  rcases ho1 with ⟨rfl, h2⟩ | ⟨f, s, c, rfl, h2, h3, h4⟩
  · have : l = [] := List.map_eq_nil_iff.1 h2
    rw [this] at hl; cases hl
  refine W.done (End.ret (v := .mslice f s 0 (settled l).length c 1) rfl ⟨_, rfl, ?_⟩)
  have hf : H.length ≤ f := by rw [List.length_append] at h2; omega
  rw [popF_keep (by simp [V.refs, hf])]
  exact ⟨[[]] ++ G, by rw [List.append_assoc], hw1, .inr ⟨f, s, c, rfl, hf, h3, h4⟩⟩

theorem settle_cw (v : V) (l : List UInt8) (hv : IsBytes v l) (H : Heap) (hH : WF H) :
    CW Tryd.prog pol 12 [v] H fun r H' => ∃ w, r = .ret (.tuple [w, .int .i64 (settleR l).2]) ∧ Own H H' w (settleR l).1 := by
  refine cw_of Tryd.func12 rfl ?_
  obtain ⟨m, rfl, hm⟩ := (check_fz v l hv).op (by rfl) (frzL_cons (hv.frz _) rfl)
  have hm' : ∀ d, _ := fun d => hm 12 H.length d (H ++ [[]]) rfl
  simp only [u_seq, u_region, u_block, w_op, evOp, us_val, us_call, us_panic, uc_ret, uc_pan, w_cond, ui_true, ui_false, w_opT, ust_val, ust_set, ust_call, uct_ret, w_guardT, ugt_tt, ugt_ff, ugt_tf, ugt_ft, u_draw, quietOp, w_guard, ug_tt, ug_ff, ug_tf, ug_ft, ug_no, ugt_no, nov, gd, w_loop, ul_some, u_ops_nil, u_skip, u_ret, u_exit, u_nil, u_code_ret, u_code_exit, u_code_panic, u_block_normal, u_block_ret, u_block_panic, u_block_exit, rho, putT, wr, b_add, b_sub, b_mul, b_eql, b_neq, b_lss, b_leq, b_gtr, b_geq, b_sadd, b_seql, b_sneq, oc_int, oc_bool, oc_str, oc_nilslice, oc_nilptr, oc_nilmap, oc_nilfunc, oc_nilface, bi_len, bi_max, bi_min, mx_nil, mx_one, frz_islice, frz_nilslice, frz_int, frz_bool, frz_str, List.getD_cons_zero, List.getD_cons_succ, List.set_cons_zero, List.set_cons_succ, List.map_cons, List.map_nil, Option.map_some, Option.map_none, Option.bind_some, Option.bind_none, List.length_nil, List.length_cons, List.nil_append, List.cons_append, List.append_nil, List.replicate_succ, List.replicate_zero, Nat.reduceAdd, Nat.reduceSub, Bool.false_eq_true, if_true, if_false, reduceIte, reduceCtorEq, List.getElem?_cons_zero, List.getElem?_cons_succ, List.getElem?_toArray, Tryd.ntmps12, hm']
  have pop0 : ∀ x : Int, popF H.length (.tuple [.nilslice, .int .i64 x]) (H ++ [[]]) = H := fun x => popF_drop rfl hH
  cases hk : okTab l
  · have c1 : ((8 : Int) != 0) = true := rfl
    have e : settleR l = ([], 8) := by simp only [settleR, hk]; rfl
    simp only [u_seq, u_region, u_block, w_op, evOp, us_val, us_call, us_panic, uc_ret, uc_pan, w_cond, ui_true, ui_false, w_opT, ust_val, ust_set, ust_call, uct_ret, w_guardT, ugt_tt, ugt_ff, ugt_tf, ugt_ft, u_draw, quietOp, w_guard, ug_tt, ug_ff, ug_tf, ug_ft, ug_no, ugt_no, nov, gd, w_loop, ul_some, u_ops_nil, u_skip, u_ret, u_exit, u_nil, u_code_ret, u_code_exit, u_code_panic, u_block_normal, u_block_ret, u_block_panic, u_block_exit, rho, putT, wr, b_add, b_sub, b_mul, b_eql, b_neq, b_lss, b_leq, b_gtr, b_geq, b_sadd, b_seql, b_sneq, oc_int, oc_bool, oc_str, oc_nilslice, oc_nilptr, oc_nilmap, oc_nilfunc, oc_nilface, bi_len, bi_max, bi_min, mx_nil, mx_one, frz_islice, frz_nilslice, frz_int, frz_bool, frz_str, List.getD_cons_zero, List.getD_cons_succ, List.set_cons_zero, List.set_cons_succ, List.map_cons, List.map_nil, Option.map_some, Option.map_none, Option.bind_some, Option.bind_none, List.length_nil, List.length_cons, List.nil_append, List.cons_append, List.append_nil, List.replicate_succ, List.replicate_zero, Nat.reduceAdd, Nat.reduceSub, Bool.false_eq_true, if_true, if_false, reduceIte, reduceCtorEq, List.getElem?_cons_zero, List.getElem?_cons_succ, List.getElem?_toArray, c1]
    refine W.done (End.ret (v := .tuple [.nilslice, .int .i64 8]) rfl ⟨_, by rw [e], ?_⟩)
    rw [e, pop0]
    exact ⟨[], by rw [List.append_nil], hH, .inl ⟨rfl, rfl⟩⟩
  have c1 : ((0 : Int) != 0) = false := rfl
  have e : settleR l = (settled l, 0) := by simp only [settleR, hk, if_true]
  have wf : WF (H ++ [[]]) := hH.app rfl
  have b2 : IsBytes (.islice [.int .u8 2] 1 true) [2] := IsBytes.mk [2] true
  have b0 : IsBytes (.islice [.int .u8 0] 1 true) [0] := IsBytes.mk [0] true
  obtain ⟨r, H', f1, x, rfl, G, rfl, hw1, ho1⟩ := replaceAll_cw v _ _ l hv b2 b0 (okTab_len hk) (H ++ [[]]) wf
  have f1' : ∀ d, _ := fun d => callOp_in (fn := 12) (fr := H.length) (d := d) (pol := pol) rfl rfl rfl f1
  have mt0 : ∀ s, pol.mt 12 s = false := fun s => rfl
  simp only [u_seq, u_region, u_block, w_op, evOp, us_val, us_call, us_panic, uc_ret, uc_pan, w_cond, ui_true, ui_false, w_opT, ust_val, ust_set, ust_call, uct_ret, w_guardT, ugt_tt, ugt_ff, ugt_tf, ugt_ft, u_draw, quietOp, w_guard, ug_tt, ug_ff, ug_tf, ug_ft, ug_no, ugt_no, nov, gd, w_loop, ul_some, u_ops_nil, u_skip, u_ret, u_exit, u_nil, u_code_ret, u_code_exit, u_code_panic, u_block_normal, u_block_ret, u_block_panic, u_block_exit, rho, putT, wr, b_add, b_sub, b_mul, b_eql, b_neq, b_lss, b_leq, b_gtr, b_geq, b_sadd, b_seql, b_sneq, oc_int, oc_bool, oc_str, oc_nilslice, oc_nilptr, oc_nilmap, oc_nilfunc, oc_nilface, bi_len, bi_max, bi_min, mx_nil, mx_one, frz_islice, frz_nilslice, frz_int, frz_bool, frz_str, List.getD_cons_zero, List.getD_cons_succ, List.set_cons_zero, List.set_cons_succ, List.map_cons, List.map_nil, Option.map_some, Option.map_none, Option.bind_some, Option.bind_none, List.length_nil, List.length_cons, List.nil_append, List.cons_append, List.append_nil, List.replicate_succ, List.replicate_zero, Nat.reduceAdd, Nat.reduceSub, Bool.false_eq_true, if_true, if_false, reduceIte, reduceCtorEq, List.getElem?_cons_zero, List.getElem?_cons_succ, List.getElem?_toArray, c1, Tryd.underlying26, sz5, zc5, mt0, splice, zerosN, fillV, cells_int, cells_bool, cells_str, cells_nilptr, cells_ptr, cells_iptr, cells_nilslice, cells_islice, cells_gslice, cells_mslice, cells_nilmap, cells_map, cells_func, cells_nilfunc, cells_nilface, cells_face, pureL, V.pure, Nat.reduceMul, Nat.reduceLeDiff, Nat.one_ne_zero, and_self, and_true, true_and, List.take_zero, List.drop_succ_cons, List.drop_zero, List.take_succ_cons, List.replicate_one, Bool.and_self, Bool.and_true, List.drop_nil, List.take_nil, Nat.le_refl, Nat.zero_add, Nat.zero_mul, Nat.one_mul, Nat.mul_one, f1']
  rcases ho1 with ⟨rfl, h2⟩ | ⟨f, s, c, rfl, h2, h3, h4⟩
  · have h5 : l = [] := List.map_eq_nil_iff.1 h2
    have h6 := okTab_len hk
    rw [h5] at h6; cases h6
  refine W.done (End.ret (v := .tuple [.mslice f s 0 (settled l).length c 1, .int .i64 0]) rfl ⟨_, by rw [e], ?_⟩)
  have hf : H.length ≤ f := by rw [List.length_append] at h2; omega
  rw [popF_keep (by simp [V.refs, refsL, hf]), e]
  exact ⟨[[]] ++ G, by rw [List.append_assoc], hw1, .inr ⟨f, s, c, rfl, hf, h3, h4⟩⟩
end Go.Proofs.YtpbhldhmjmfigaaDoor
