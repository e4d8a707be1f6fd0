/- space: plain lemmas on tables; counted; SpaceCounts. -/
import Derived.Test.YtpbhldhmjmfigaaDoorT12
set_option linter.unusedSimpArgs false
set_option linter.unusedVariables false
set_option maxRecDepth 100000
namespace Go.Proofs.YtpbhldhmjmfigaaDoor
open Go.AM
attribute [local irreducible] U W

/-! ### Plain -/
theorem okTab_get {l : List UInt8} (h : okTab l = true) {i : Nat} {b : UInt8} (hb : l[i]? = some b) : b ≤ 2 ∧ (i < 12 → b = 1) := ((okTab_iff l).1 h).2 i b hb
theorem okTab_set {l : List UInt8} (h : okTab l = true) {p : Nat} {b : UInt8} (hb : b ≤ 2) (hp : 12 ≤ p) : okTab (l.set p b) = true := by
  rw [okTab_iff] at h ⊢
  refine ⟨by rw [List.length_set]; exact h.1, fun i c hc => ?_⟩
  rw [List.getElem?_set] at hc
  split at hc
  · split at hc
    · cases hc; exact ⟨hb, fun h => by omega⟩
    · cases hc
  · exact h.2 i c hc
theorem scan_min : ∀ (l : List UInt8) (a p : Nat), scan l a = some p → ∀ j, j < p - a → l[j]? ≠ some 0
  | [], a, p, h, _, _ => by cases h
  | b :: r, a, p, h, j, hj => by
    simp only [scan] at h
    split at h
    · cases h; omega
    · rename_i hb
      cases j with
      | zero => simpa using hb
      | succ j =>
        have h1 := (scan_lt r (a + 1) p h).1
        simpa using scan_min r (a + 1) p h j (by omega)
theorem scan_none : ∀ (l : List UInt8) (a : Nat), scan l a = none → ∀ j : Nat, l[j]? ≠ some 0
  | [], a, h, j => by simp
  | b :: r, a, h, j => by
    simp only [scan] at h
    split at h
    · cases h
    · rename_i hb
      cases j with
      | zero => simpa using hb
      | succ j => simpa using scan_none r (a + 1) h j
theorem scan_eq (l : List UInt8) (p : Nat) (h0 : l[p]? = some 0) (hm : ∀ j, j < p → l[j]? ≠ some 0) : scan l 0 = some p := by
  cases hs : scan l 0 with
  | none => exact absurd h0 (scan_none l 0 hs p)
  | some q =>
    have h1 := (scan_lt l 0 q hs).2.2
    have h2 := scan_min l 0 q hs
    simp only [Nat.sub_zero] at h1 h2
    have : p = q := by
      rcases Nat.lt_trichotomy p q with h | h | h
      · exact absurd h0 (h2 p h)
      · exact h
      · exact absurd h1 (hm q h)
    rw [this]
theorem takeR_eq {l : List UInt8} (h : okTab l = true) : takeR l = match scan l 0 with | none => ([], 0, 9) | some p => (l.set p 1, (p : Int), 0) := by
  have := freesFrom_scan l 0
  cases hs : scan l 0 with
  | none => rw [hs] at this; simp only [takeR, h, if_true, this]
  | some p => rw [hs] at this; simp only [takeR, h, if_true, this]; rfl
/-- What is taken: the first free block. -/
theorem take_some {l : List UInt8} (h : okTab l = true) (he : (takeR l).2.2 = 0) : ∃ p, takeR l = (l.set p 1, (p : Int), 0) ∧ 12 ≤ p ∧ p < 256 ∧ l[p]? = some 0 ∧ (∀ j, j < p → l[j]? ≠ some 0) ∧ okTab (l.set p 1) = true := by
  rw [takeR_eq h] at he ⊢
  cases hs : scan l 0 with
  | none => rw [hs] at he; cases he
  | some p =>
    have h1 := scan_lt l 0 p hs
    simp only [Nat.sub_zero, Nat.zero_add] at h1
    have h2 := okTab_len h
    have h3 : 12 ≤ p := by
      rcases Nat.lt_or_ge p 12 with g | g
      · have := (okTab_get h h1.2.2).2 g; cases this
      · exact g
    exact ⟨p, rfl, h3, by omega, h1.2.2, by simpa using scan_min l 0 p hs, okTab_set h (by decide) h3⟩
theorem take_none {l : List UInt8} (h : okTab l = true) (he : (takeR l).2.2 ≠ 0) : takeR l = ([], 0, 9) ∧ ∀ j : Nat, l[j]? ≠ some 0 := by
  rw [takeR_eq h] at he ⊢
  cases hs : scan l 0 with
  | none => exact ⟨rfl, scan_none l 0 hs⟩
  | some p => rw [hs] at he; exact absurd rfl he
theorem give_some {l : List UInt8} {a : Int} (h : okTab l = true) (he : (giveR l a).2 = 0) : ∃ i : Nat, a = i ∧ 12 ≤ i ∧ i < 256 ∧ l[i]? = some 1 ∧ giveR l a = (l.set i 2, 0) ∧ okTab (l.set i 2) = true := by
  unfold giveR at he ⊢
  simp only [h, if_true] at he ⊢
  split at he
  · cases he
  · rename_i h1
    split at he
    · rename_i h2
      refine ⟨a.toNat, by omega, by omega, by omega, h2, ?_, okTab_set h (by decide) (by omega)⟩
      rw [if_neg h1, if_pos h2]
    · cases he
theorem giveR_of {l : List UInt8} {i : Nat} (h : okTab l = true) (h1 : 12 ≤ i) (h2 : i < 256) (h3 : l[i]? = some 1) : giveR l i = (l.set i 2, 0) := by
  unfold giveR
  simp only [h, if_true]
  rw [if_neg (by omega), if_pos (by simpa using h3)]
  rfl
theorem give_none {l : List UInt8} {a : Int} (h : okTab l = true) (he : (giveR l a).2 ≠ 0) : (giveR l a).1 = [] ∧ (a < 12 ∨ 256 ≤ a ∨ ∃ i : Nat, a = i ∧ l[i]? ≠ some 1) := by
  unfold giveR at he ⊢
  simp only [h, if_true] at he ⊢
  split at he
  · rename_i h1; rw [if_pos h1]; exact ⟨rfl, by omega⟩
  · rename_i h1
    split at he
    · exact absurd rfl he
    · rename_i h2; rw [if_neg h1, if_neg h2]; exact ⟨rfl, .inr (.inr ⟨a.toNat, by omega, h2⟩)⟩
theorem okTab_settled {l : List UInt8} (h : okTab l = true) : okTab (settled l) = true := by
  rw [okTab_iff] at h ⊢
  refine ⟨by rw [settled_len]; exact h.1, fun i c hc => ?_⟩
  simp only [settled, List.getElem?_map, Option.map_eq_some_iff] at hc
  obtain ⟨b, hb, rfl⟩ := hc
  have := h.2 i b hb
  split
  · rename_i e; subst e; exact ⟨by decide, fun h => by have := this.2 h; cases this⟩
  · exact this
theorem settled_twice (l : List UInt8) : settled (settled l) = settled l := by
  simp only [settled, List.map_map]
  apply List.map_congr_left
  intro b _
  simp only [Function.comp]
  split <;> simp_all
theorem settleR_ok {l : List UInt8} (h : okTab l = true) : settleR l = (settled l, 0) := by simp only [settleR, h, if_true]
theorem freeR_ok {l : List UInt8} (h : okTab l = true) : freeR l = (freesFrom l 0, 0) := by simp only [freeR, h, if_true]
theorem freesFrom_count : ∀ (l : List UInt8) (a : Nat), (freesFrom l a).length = l.count 0
  | [], a => rfl
  | b :: r, a => by
    simp only [freesFrom, List.count_cons]
    split
    · rename_i h; simp [h, freesFrom_count r]
    · rename_i h; simp [h, freesFrom_count r]
theorem three (b : UInt8) (h : b ≤ 2) : b = 0 ∨ b = 1 ∨ b = 2 := by
  have : b.toNat ≤ 2 := by simpa [UInt8.le_iff_toNat_le] using h
  have : b.toNat = 0 ∨ b.toNat = 1 ∨ b.toNat = 2 := by omega
  rcases this with h | h | h
  · exact .inl (UInt8.toNat_inj.1 h)
  · exact .inr (.inl (UInt8.toNat_inj.1 h))
  · exact .inr (.inr (UInt8.toNat_inj.1 h))
theorem count_three : ∀ (l : List UInt8), (∀ b ∈ l, b ≤ 2) → l.count 0 + l.count 1 + l.count 2 = l.length
  | [], _ => rfl
  | b :: r, h => by
    have ih := count_three r fun c hc => h c (by simp [hc])
    rcases three b (h b (by simp)) with rfl | rfl | rfl <;> simp [List.count_cons] <;> omega
theorem count_set (l : List UInt8) (p : Nat) (a b c : UInt8) (h : l[p]? = some a) : (l.set p b).count c + (if a = c then 1 else 0) = l.count c + (if b = c then 1 else 0) := by
  induction l generalizing p with
  | nil => simp at h
  | cons x r ih =>
    cases p with
    | zero =>
      simp at h; subst h
      simp only [List.set_cons_zero, List.count_cons, beq_iff_eq]
      omega
    | succ p =>
      simp only [List.set_cons_succ, List.count_cons]
      have := ih p (by simpa using h)
      omega
theorem count_settled (l : List UInt8) : (settled l).count 0 = l.count 0 + l.count 2 ∧ (settled l).count 1 = l.count 1 ∧ (settled l).count 2 = 0 := by
  induction l with
  | nil => exact ⟨rfl, rfl, rfl⟩
  | cons b r ih =>
    have e : settled (b :: r) = (if b = 2 then 0 else b) :: settled r := rfl
    rw [e]
    by_cases h : b = 2
    · subst h; simp [List.count_cons, ih.1, ih.2.1, ih.2.2]; omega
    · by_cases h0 : b = 0
      · subst h0; simp [List.count_cons, ih.1, ih.2.1, ih.2.2]; omega
      · simp [List.count_cons, ih.1, ih.2.1, ih.2.2, h, h0]
theorem okTab_ones {l : List UInt8} (h : okTab l = true) : 12 ≤ l.count 1 := by
  have h2 : (l.take 12).count 1 = 12 := by
    simp only [okTab, Bool.and_eq_true, beq_iff_eq] at h; exact h.2
  have := List.count_append (a := (1 : UInt8)) (l₁ := l.take 12) (l₂ := l.drop 12)
  rw [List.take_append_drop] at this
  omega
theorem okTab_sum {l : List UInt8} (h : okTab l = true) : l.count 0 + l.count 1 + l.count 2 = 256 := by
  rw [count_three l, okTab_len h]
  intro b hb
  obtain ⟨i, hi⟩ := List.mem_iff_getElem?.1 hb
  exact (okTab_get h hi).1

/-! ### The walk -/
def cnt (l : List UInt8) : List V := [.int .i64 (l.count 0 : Nat), .int .i64 (l.count 1 : Nat), .int .i64 (l.count 2 : Nat)]
theorem at_arr {P : Program} {u e : TypeId} {n q : Nat} (hu : P.underlying u = some (.array n e)) (hs : sz P e = some q) {f s o : Nat} {k : IntKind} {i : Int} (h0 : 0 ≤ i) (hi : i < n) : indexAddrV P u (.ptr f s o) (.int k i) = some (.ptr f s (o + i.toNat * q)) := by
  simp only [indexAddrV, hu, hs]
  rw [if_pos ⟨h0, hi⟩]
theorem cells_agg {cs : List V} : (V.agg cs).cells = if cs.all V.scalar then some cs else none := rfl
theorem rd47 (xs : List V) (o : Nat) (h : o + 3 ≤ xs.length) : readAt Tryd.prog 47 xs o = some (.agg ((xs.drop o).take 3)) := by
  simp only [readAt, Tryd.underlying47, sz47, aggD, if_true, h]
theorem count_take (l : List UInt8) (i : Nat) (c : UInt8) (h : i < l.length) : (l.take (i + 1)).count c = (l.take i).count c + if l[i] = c then 1 else 0 := by
  rw [List.take_add_one, List.getElem?_eq_getElem h, List.count_append]
  by_cases e : l[i] = c <;> simp [e]

theorem counted_fz (v : V) (l : List UInt8) (hv : IsBytes v l) (hl : l.length ≤ 10000) : Fz Tryd.prog pol 23 [v] fun r => r = .agg (cnt l) := by
  refine fz_of Tryd.func23 rfl ?_
  have len := hv.len Tryd.underlying26
  simp only [u_seq, u_region, u_block, w_op, evOp, us_val, us_call, us_panic, uc_ret, uc_pan, w_cond, ui_true, ui_false, w_opT, ust_val, ust_set, ust_call, uct_ret, w_guardT, ugt_tt, ugt_ff, ugt_tf, ugt_ft, u_draw, quietOp, w_guard, ug_tt, ug_ff, ug_tf, ug_ft, ug_no, ugt_no, nov, gd, w_loop, ul_some, u_ops_nil, u_skip, u_ret, u_exit, u_nil, u_code_ret, u_code_exit, u_code_panic, u_block_normal, u_block_ret, u_block_panic, u_block_exit, rho, putT, wr, b_add, b_sub, b_mul, b_eql, b_neq, b_lss, b_leq, b_gtr, b_geq, b_sadd, b_seql, b_sneq, oc_int, oc_bool, oc_str, oc_nilslice, oc_nilptr, oc_nilmap, oc_nilfunc, oc_nilface, bi_len, bi_max, bi_min, mx_nil, mx_one, frz_islice, frz_nilslice, frz_int, frz_bool, frz_str, List.getD_cons_zero, List.getD_cons_succ, List.set_cons_zero, List.set_cons_succ, List.map_cons, List.map_nil, Option.map_some, Option.map_none, Option.bind_some, Option.bind_none, List.length_nil, List.length_cons, List.nil_append, List.cons_append, List.append_nil, List.replicate_succ, List.replicate_zero, Nat.reduceAdd, Nat.reduceSub, Bool.false_eq_true, if_true, if_false, reduceIte, reduceCtorEq, List.getElem?_cons_zero, List.getElem?_cons_succ, List.getElem?_toArray, Tryd.ntmps23, zc47, new, hget, hset, fget, fset, List.modify_zero_cons, List.modify_succ_cons, List.modify_cons, Nat.reduceLT, Nat.reduceEqDiff, Nat.lt_irrefl, Nat.not_lt_zero, Nat.lt_add_one]
  refine W.ul ?_
  refine W.loopS (kt := [0, 2, 3, 4]) rfl (fun i : Nat => st23_3 v (.ptr 0 2 0) (.ptr 0 3 0) (.int .i64 i)) (fun i => [[(2, .cells [.int .i64 0, .int .i64 0, .int .i64 0]), (3, .cells (cnt (l.take i)))]]) (fun i => i ≤ l.length) (fun i => l.length - i) ?_ 0 (by omega) rfl rfl
  intro i hi
  simp only [st23_3]
  by_cases h : i < l.length
  · have c1 : decide ((i : Int) < l.length) = true := decide_eq_true (by omega)
    have at1 := hv.at (k := .i64) Tryd.underlying26 sz5 (by decide) (i := (i : Int)) (by omega) (by omega)
    have w1 := wrap_add1 (i := i) (by omega)
    have g0 := gb h
    rw [Nat.mul_one] at g0 at1
    have t0 := count_take l i 0 h
    have t1 := count_take l i 1 h
    have t2 := count_take l i 2 h
    have l0 := List.count_le_length (a := (0 : UInt8)) (l := l.take i)
    have l1 := List.count_le_length (a := (1 : UInt8)) (l := l.take i)
    have l2 := List.count_le_length (a := (2 : UInt8)) (l := l.take i)
    rw [List.length_take] at l0 l1 l2
    have w2 : ∀ n : Nat, n ≤ 10000 → (IntKind.i64).wrap ((n : Int) + 1) = ((n + 1 : Nat) : Int) := fun n hn => wrap_add1 (by omega)
    by_cases hb : l[i] ≤ 2
    · have c2 : decide ((l[i].toNat : Int) ≤ 2) = true := decide_eq_true ((le2 _).2 hb)
      rcases three _ hb with e | e | e
      · rw [e] at g0 c2 t0 t1 t2
        have n0 := w2 ((l.take i).count 0) (by omega)
        have a0 : indexAddrV Tryd.prog 47 (.ptr 0 3 0) (.int .u8 ((0 : UInt8).toNat : Int)) = some (.ptr 0 3 0) := at_arr (P := Tryd.prog) Tryd.underlying47 sz3 (f := 0) (s := 3) (o := 0) (k := .u8) (i := ((0 : UInt8).toNat : Int)) (by decide) (by decide)
        simp only [u_seq, u_region, u_block, w_op, evOp, us_val, us_call, us_panic, uc_ret, uc_pan, w_cond, ui_true, ui_false, w_opT, ust_val, ust_set, ust_call, uct_ret, w_guardT, ugt_tt, ugt_ff, ugt_tf, ugt_ft, u_draw, quietOp, w_guard, ug_tt, ug_ff, ug_tf, ug_ft, ug_no, ugt_no, nov, gd, w_loop, ul_some, u_ops_nil, u_skip, u_ret, u_exit, u_nil, u_code_ret, u_code_exit, u_code_panic, u_block_normal, u_block_ret, u_block_panic, u_block_exit, rho, putT, wr, b_add, b_sub, b_mul, b_eql, b_neq, b_lss, b_leq, b_gtr, b_geq, b_sadd, b_seql, b_sneq, oc_int, oc_bool, oc_str, oc_nilslice, oc_nilptr, oc_nilmap, oc_nilfunc, oc_nilface, bi_len, bi_max, bi_min, mx_nil, mx_one, frz_islice, frz_nilslice, frz_int, frz_bool, frz_str, List.getD_cons_zero, List.getD_cons_succ, List.set_cons_zero, List.set_cons_succ, List.map_cons, List.map_nil, Option.map_some, Option.map_none, Option.bind_some, Option.bind_none, List.length_nil, List.length_cons, List.nil_append, List.cons_append, List.append_nil, List.replicate_succ, List.replicate_zero, Nat.reduceAdd, Nat.reduceSub, Bool.false_eq_true, if_true, if_false, reduceIte, reduceCtorEq, List.getElem?_cons_zero, List.getElem?_cons_succ, List.getElem?_toArray, len, c1, at1, rd5, g0, c2, a0, new, hget, hset, fget, fset, List.modify_zero_cons, List.modify_succ_cons, List.modify_cons, Nat.reduceLT, Nat.reduceEqDiff, Nat.lt_irrefl, Nat.not_lt_zero, Nat.lt_add_one, rd3, sz3, cnt, n0, w1, splice, zerosN, fillV, cells_int, cells_bool, cells_str, cells_nilptr, cells_ptr, cells_iptr, cells_nilslice, cells_islice, cells_gslice, cells_mslice, cells_nilmap, cells_map, cells_func, cells_nilfunc, cells_nilface, cells_face, pureL, V.pure, Nat.reduceMul, Nat.reduceLeDiff, Nat.one_ne_zero, and_self, and_true, true_and, List.take_zero, List.drop_succ_cons, List.drop_zero, List.take_succ_cons, List.replicate_one, Bool.and_self, Bool.and_true, List.drop_nil, List.take_nil, Nat.le_refl, Nat.zero_add, Nat.zero_mul, Nat.one_mul, Nat.mul_one]
        refine W.done ⟨i + 1, rfl, ?_, by omega, by omega⟩
        simp only [cnt, t0, t1, t2]
        rfl
      · rw [e] at g0 c2 t0 t1 t2
        have n0 := w2 ((l.take i).count 1) (by omega)
        have a0 : indexAddrV Tryd.prog 47 (.ptr 0 3 0) (.int .u8 ((1 : UInt8).toNat : Int)) = some (.ptr 0 3 1) := at_arr (P := Tryd.prog) Tryd.underlying47 sz3 (f := 0) (s := 3) (o := 0) (k := .u8) (i := ((1 : UInt8).toNat : Int)) (by decide) (by decide)
        simp only [u_seq, u_region, u_block, w_op, evOp, us_val, us_call, us_panic, uc_ret, uc_pan, w_cond, ui_true, ui_false, w_opT, ust_val, ust_set, ust_call, uct_ret, w_guardT, ugt_tt, ugt_ff, ugt_tf, ugt_ft, u_draw, quietOp, w_guard, ug_tt, ug_ff, ug_tf, ug_ft, ug_no, ugt_no, nov, gd, w_loop, ul_some, u_ops_nil, u_skip, u_ret, u_exit, u_nil, u_code_ret, u_code_exit, u_code_panic, u_block_normal, u_block_ret, u_block_panic, u_block_exit, rho, putT, wr, b_add, b_sub, b_mul, b_eql, b_neq, b_lss, b_leq, b_gtr, b_geq, b_sadd, b_seql, b_sneq, oc_int, oc_bool, oc_str, oc_nilslice, oc_nilptr, oc_nilmap, oc_nilfunc, oc_nilface, bi_len, bi_max, bi_min, mx_nil, mx_one, frz_islice, frz_nilslice, frz_int, frz_bool, frz_str, List.getD_cons_zero, List.getD_cons_succ, List.set_cons_zero, List.set_cons_succ, List.map_cons, List.map_nil, Option.map_some, Option.map_none, Option.bind_some, Option.bind_none, List.length_nil, List.length_cons, List.nil_append, List.cons_append, List.append_nil, List.replicate_succ, List.replicate_zero, Nat.reduceAdd, Nat.reduceSub, Bool.false_eq_true, if_true, if_false, reduceIte, reduceCtorEq, List.getElem?_cons_zero, List.getElem?_cons_succ, List.getElem?_toArray, len, c1, at1, rd5, g0, c2, a0, new, hget, hset, fget, fset, List.modify_zero_cons, List.modify_succ_cons, List.modify_cons, Nat.reduceLT, Nat.reduceEqDiff, Nat.lt_irrefl, Nat.not_lt_zero, Nat.lt_add_one, rd3, sz3, cnt, n0, w1, splice, zerosN, fillV, cells_int, cells_bool, cells_str, cells_nilptr, cells_ptr, cells_iptr, cells_nilslice, cells_islice, cells_gslice, cells_mslice, cells_nilmap, cells_map, cells_func, cells_nilfunc, cells_nilface, cells_face, pureL, V.pure, Nat.reduceMul, Nat.reduceLeDiff, Nat.one_ne_zero, and_self, and_true, true_and, List.take_zero, List.drop_succ_cons, List.drop_zero, List.take_succ_cons, List.replicate_one, Bool.and_self, Bool.and_true, List.drop_nil, List.take_nil, Nat.le_refl, Nat.zero_add, Nat.zero_mul, Nat.one_mul, Nat.mul_one]
        refine W.done ⟨i + 1, rfl, ?_, by omega, by omega⟩
        simp only [cnt, t0, t1, t2]
        rfl
      · rw [e] at g0 c2 t0 t1 t2
        have n0 := w2 ((l.take i).count 2) (by omega)
        have a0 : indexAddrV Tryd.prog 47 (.ptr 0 3 0) (.int .u8 ((2 : UInt8).toNat : Int)) = some (.ptr 0 3 2) := at_arr (P := Tryd.prog) Tryd.underlying47 sz3 (f := 0) (s := 3) (o := 0) (k := .u8) (i := ((2 : UInt8).toNat : Int)) (by decide) (by decide)
        simp only [u_seq, u_region, u_block, w_op, evOp, us_val, us_call, us_panic, uc_ret, uc_pan, w_cond, ui_true, ui_false, w_opT, ust_val, ust_set, ust_call, uct_ret, w_guardT, ugt_tt, ugt_ff, ugt_tf, ugt_ft, u_draw, quietOp, w_guard, ug_tt, ug_ff, ug_tf, ug_ft, ug_no, ugt_no, nov, gd, w_loop, ul_some, u_ops_nil, u_skip, u_ret, u_exit, u_nil, u_code_ret, u_code_exit, u_code_panic, u_block_normal, u_block_ret, u_block_panic, u_block_exit, rho, putT, wr, b_add, b_sub, b_mul, b_eql, b_neq, b_lss, b_leq, b_gtr, b_geq, b_sadd, b_seql, b_sneq, oc_int, oc_bool, oc_str, oc_nilslice, oc_nilptr, oc_nilmap, oc_nilfunc, oc_nilface, bi_len, bi_max, bi_min, mx_nil, mx_one, frz_islice, frz_nilslice, frz_int, frz_bool, frz_str, List.getD_cons_zero, List.getD_cons_succ, List.set_cons_zero, List.set_cons_succ, List.map_cons, List.map_nil, Option.map_some, Option.map_none, Option.bind_some, Option.bind_none, List.length_nil, List.length_cons, List.nil_append, List.cons_append, List.append_nil, List.replicate_succ, List.replicate_zero, Nat.reduceAdd, Nat.reduceSub, Bool.false_eq_true, if_true, if_false, reduceIte, reduceCtorEq, List.getElem?_cons_zero, List.getElem?_cons_succ, List.getElem?_toArray, len, c1, at1, rd5, g0, c2, a0, new, hget, hset, fget, fset, List.modify_zero_cons, List.modify_succ_cons, List.modify_cons, Nat.reduceLT, Nat.reduceEqDiff, Nat.lt_irrefl, Nat.not_lt_zero, Nat.lt_add_one, rd3, sz3, cnt, n0, w1, splice, zerosN, fillV, cells_int, cells_bool, cells_str, cells_nilptr, cells_ptr, cells_iptr, cells_nilslice, cells_islice, cells_gslice, cells_mslice, cells_nilmap, cells_map, cells_func, cells_nilfunc, cells_nilface, cells_face, pureL, V.pure, Nat.reduceMul, Nat.reduceLeDiff, Nat.one_ne_zero, and_self, and_true, true_and, List.take_zero, List.drop_succ_cons, List.drop_zero, List.take_succ_cons, List.replicate_one, Bool.and_self, Bool.and_true, List.drop_nil, List.take_nil, Nat.le_refl, Nat.zero_add, Nat.zero_mul, Nat.one_mul, Nat.mul_one]
        refine W.done ⟨i + 1, rfl, ?_, by omega, by omega⟩
        simp only [cnt, t0, t1, t2]
        rfl
    · have c2 : decide ((l[i].toNat : Int) ≤ 2) = false := decide_eq_false fun h => hb ((le2 _).1 h)
      have b0 : l[i] ≠ 0 := fun e => hb (by rw [e]; decide)
      have b1 : l[i] ≠ 1 := fun e => hb (by rw [e]; decide)
      have b2 : l[i] ≠ 2 := fun e => hb (by rw [e]; decide)
      rw [if_neg b0] at t0; rw [if_neg b1] at t1; rw [if_neg b2] at t2
      simp only [u_seq, u_region, u_block, w_op, evOp, us_val, us_call, us_panic, uc_ret, uc_pan, w_cond, ui_true, ui_false, w_opT, ust_val, ust_set, ust_call, uct_ret, w_guardT, ugt_tt, ugt_ff, ugt_tf, ugt_ft, u_draw, quietOp, w_guard, ug_tt, ug_ff, ug_tf, ug_ft, ug_no, ugt_no, nov, gd, w_loop, ul_some, u_ops_nil, u_skip, u_ret, u_exit, u_nil, u_code_ret, u_code_exit, u_code_panic, u_block_normal, u_block_ret, u_block_panic, u_block_exit, rho, putT, wr, b_add, b_sub, b_mul, b_eql, b_neq, b_lss, b_leq, b_gtr, b_geq, b_sadd, b_seql, b_sneq, oc_int, oc_bool, oc_str, oc_nilslice, oc_nilptr, oc_nilmap, oc_nilfunc, oc_nilface, bi_len, bi_max, bi_min, mx_nil, mx_one, frz_islice, frz_nilslice, frz_int, frz_bool, frz_str, List.getD_cons_zero, List.getD_cons_succ, List.set_cons_zero, List.set_cons_succ, List.map_cons, List.map_nil, Option.map_some, Option.map_none, Option.bind_some, Option.bind_none, List.length_nil, List.length_cons, List.nil_append, List.cons_append, List.append_nil, List.replicate_succ, List.replicate_zero, Nat.reduceAdd, Nat.reduceSub, Bool.false_eq_true, if_true, if_false, reduceIte, reduceCtorEq, List.getElem?_cons_zero, List.getElem?_cons_succ, List.getElem?_toArray, len, c1, at1, rd5, g0, c2, w1]
      refine W.done ⟨i + 1, rfl, ?_, by omega, by omega⟩
      simp only [cnt, t0, t1, t2, Nat.add_zero]
  · have c1 : decide ((i : Int) < l.length) = false := decide_eq_false (by omega)
    have e : l.take i = l := List.take_of_length_le (by omega)
    rw [e]
    simp only [u_seq, u_region, u_block, w_op, evOp, us_val, us_call, us_panic, uc_ret, uc_pan, w_cond, ui_true, ui_false, w_opT, ust_val, ust_set, ust_call, uct_ret, w_guardT, ugt_tt, ugt_ff, ugt_tf, ugt_ft, u_draw, quietOp, w_guard, ug_tt, ug_ff, ug_tf, ug_ft, ug_no, ugt_no, nov, gd, w_loop, ul_some, u_ops_nil, u_skip, u_ret, u_exit, u_nil, u_code_ret, u_code_exit, u_code_panic, u_block_normal, u_block_ret, u_block_panic, u_block_exit, rho, putT, wr, b_add, b_sub, b_mul, b_eql, b_neq, b_lss, b_leq, b_gtr, b_geq, b_sadd, b_seql, b_sneq, oc_int, oc_bool, oc_str, oc_nilslice, oc_nilptr, oc_nilmap, oc_nilfunc, oc_nilface, bi_len, bi_max, bi_min, mx_nil, mx_one, frz_islice, frz_nilslice, frz_int, frz_bool, frz_str, List.getD_cons_zero, List.getD_cons_succ, List.set_cons_zero, List.set_cons_succ, List.map_cons, List.map_nil, Option.map_some, Option.map_none, Option.bind_some, Option.bind_none, List.length_nil, List.length_cons, List.nil_append, List.cons_append, List.append_nil, List.replicate_succ, List.replicate_zero, Nat.reduceAdd, Nat.reduceSub, Bool.false_eq_true, if_true, if_false, reduceIte, reduceCtorEq, List.getElem?_cons_zero, List.getElem?_cons_succ, List.getElem?_toArray, len, c1]
    refine W.done ?_
    have r0 := rd47 (cnt l) 0 (by simp [cnt])
    have r1 : ((cnt l).drop 0).take 3 = cnt l := rfl
    have sc : (cnt l).all V.scalar = true := rfl
    have cl : (cnt l).length = 3 := rfl
    have sp : splice [V.int .i64 0, .int .i64 0, .int .i64 0] 0 (cnt l) = cnt l := by simp [splice, cnt]
    rw [r1] at r0
    simp only [u_seq, u_region, u_block, w_op, evOp, us_val, us_call, us_panic, uc_ret, uc_pan, w_cond, ui_true, ui_false, w_opT, ust_val, ust_set, ust_call, uct_ret, w_guardT, ugt_tt, ugt_ff, ugt_tf, ugt_ft, u_draw, quietOp, w_guard, ug_tt, ug_ff, ug_tf, ug_ft, ug_no, ugt_no, nov, gd, w_loop, ul_some, u_ops_nil, u_skip, u_ret, u_exit, u_nil, u_code_ret, u_code_exit, u_code_panic, u_block_normal, u_block_ret, u_block_panic, u_block_exit, rho, putT, wr, b_add, b_sub, b_mul, b_eql, b_neq, b_lss, b_leq, b_gtr, b_geq, b_sadd, b_seql, b_sneq, oc_int, oc_bool, oc_str, oc_nilslice, oc_nilptr, oc_nilmap, oc_nilfunc, oc_nilface, bi_len, bi_max, bi_min, mx_nil, mx_one, frz_islice, frz_nilslice, frz_int, frz_bool, frz_str, List.getD_cons_zero, List.getD_cons_succ, List.set_cons_zero, List.set_cons_succ, List.map_cons, List.map_nil, Option.map_some, Option.map_none, Option.bind_some, Option.bind_none, List.length_nil, List.length_cons, List.nil_append, List.cons_append, List.append_nil, List.replicate_succ, List.replicate_zero, Nat.reduceAdd, Nat.reduceSub, Bool.false_eq_true, if_true, if_false, reduceIte, reduceCtorEq, List.getElem?_cons_zero, List.getElem?_cons_succ, List.getElem?_toArray, new, hget, hset, fget, fset, List.modify_zero_cons, List.modify_succ_cons, List.modify_cons, Nat.reduceLT, Nat.reduceEqDiff, Nat.lt_irrefl, Nat.not_lt_zero, Nat.lt_add_one, r0, cells_agg, sc, sz47, cl, sp, zerosN, fillV, cells_int, cells_bool, cells_str, cells_nilptr, cells_ptr, cells_iptr, cells_nilslice, cells_islice, cells_gslice, cells_mslice, cells_nilmap, cells_map, cells_func, cells_nilfunc, cells_nilface, cells_face, pureL, V.pure, Nat.reduceMul, Nat.reduceLeDiff, Nat.one_ne_zero, and_self, and_true, true_and, List.take_zero, List.drop_succ_cons, List.drop_zero, List.take_succ_cons, List.replicate_one, Bool.and_self, Bool.and_true, List.drop_nil, List.take_nil, Nat.le_refl, Nat.zero_add, Nat.zero_mul, Nat.one_mul, Nat.mul_one]
    refine W.done (EndZ.ret (v := .agg (cnt l)) (v' := .agg (cnt l)) ?_ rfl rfl)
    show resV _ _ _ _ = _
    have : readAt Tryd.prog 47 (cnt l) 0 = some (.agg (cnt l)) := r0
    simp only [resV, Tryd.f23, resL, resOne, hget, fget, List.getD_cons_zero, List.getD_cons_succ, this, List.getElem?_cons_zero, if_true]
end Go.Proofs.YtpbhldhmjmfigaaDoor
