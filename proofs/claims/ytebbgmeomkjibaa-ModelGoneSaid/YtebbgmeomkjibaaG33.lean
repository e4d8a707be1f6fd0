/- This file holds in one the texts O6x; each says at its head what it proves. -/
import Derived.Test.YtebbgmeomkjibaaG32
set_option linter.unusedSimpArgs false
set_option linter.unusedVariables false
section
/- model: bytes of another number, and what is written. -/
set_option maxRecDepth 100000
namespace Go.Proofs.Ytebbgmeomkjibaa
open Go.AM Go.Mod

attribute [local irreducible] U W lineC

theorem by_u8 : byt Try.prog 5 = some 1 := by kernel_rfl
theorem zeros_bytes : ∀ n : Nat, zerosN [V.int .u8 0] n = ofBytes (List.replicate n 0)
  | 0 => rfl
  | n + 1 => by simp only [zerosN, zeros_bytes n, List.replicate_succ]; rfl
theorem sized_eq (l : Bytes) (n : Nat) : (List.replicate n (0 : UInt8)).take 0 ++ l.take (min l.length n) ++ (List.replicate n (0 : UInt8)).drop (0 + min l.length n) = sized l n := by
  unfold sized
  rw [List.take_zero, List.nil_append, List.drop_replicate, Nat.zero_add]
  by_cases h : l.length ≤ n
  · rw [Nat.min_eq_left h, List.take_of_length_le (Nat.le_refl _), List.take_of_length_le h]
  · rw [Nat.min_eq_right (by omega)]
    congr 2; omega
theorem sized_eq' (l : Bytes) (n : Nat) : l.take (min l.length n) ++ (List.replicate n (0 : UInt8)).drop (min l.length n) = sized l n := by
  have := sized_eq l n
  simpa only [List.take_zero, List.nil_append, Nat.zero_add] using this
theorem sized_len (l : Bytes) (n : Nat) : (sized l n).length = n := by simp [sized]; omega

theorem sized_cr (H : Heap) (v : V) (l : Bytes) (hv : IsBytes v l) (n : Nat) (hn0 : n ≤ 1000000) :
    CR Try.prog pol 56 [v, .int .i64 n] H fun r H' => r = .mslice H.length 7 0 n (some n) 1 ∧ hget H' H.length 7 = some (.cells (ofBytes (sized l n))) ∧ Ch H H' [] := by
  refine cr_of Try.func56 rfl ?_
  intro q K hn F
  have rm : roomy n 1 = true := roomy_of (by omega) (by omega)
  have c0 : (0 : Int) ≤ n := by omega
  have cp : ∀ g : Get, g q 7 = some (.cells (ofBytes (List.replicate n 0))) → copyV Try.prog g 26 (.mslice q 7 0 n (some n) 1) v = _ := fun g hg =>
    copy_bytes Try.underlying26 sz5 hg (by simp) (IsSl.sc hv) hv.notStr
  simp only [walk, walkL, evOp, quietOp, farOp, nov, gd, rho, putT, wr, Nat.reduceAdd, Nat.reduceSub, Bool.false_eq_true, if_true, if_false, reduceIte, reduceCtorEq, walkM, Int.reduceBEq, Int.reduceBNe, Int.reduceLT, Int.reduceLE, decide_true, decide_false, eq_self, Bool.not_true, Bool.not_false, ↓ev_fa, ↓ev_field, ↓ev_load, ↓ev_store, stO_cells, List.all_cons, List.all_nil, Bool.and_self, Bool.and_true, Try.ntmps56, ta56, new, hget_hset', hset_length, and_false, false_and, and_true, true_and, and_self, Nat.reduceEqDiff, Nat.reduceLT, Nat.lt_irrefl, Nat.not_lt_zero, zerosN, fillV, walkB, pureL, V.pure, Nat.reduceMul, Nat.reduceLeDiff, Nat.one_ne_zero, List.take_zero, List.drop_succ_cons, List.drop_zero, List.take_succ_cons, List.replicate_one, List.drop_nil, List.take_nil, Nat.le_refl, Nat.zero_add, Nat.zero_mul, Nat.one_mul, Nat.mul_one, F.own, F.lt, Try.underlying26, by_u8, c0, Int.le_refl, Int.toNat_natCast, rm, zeros_bytes, bi_copy, cp, sized_eq']
  refine W.done (EndK.ret rfl ?_)
  rw [popF_keep (by simp only [List.getD_cons_succ, List.getD_cons_zero, V.refs]; simp)]
  refine ⟨by rw [← hn]; rfl, by rw [← hn]; exact hget_same (by first | exact F.lt | (simp only [hset_length]; exact F.lt)), by simp only [hset_length]; have := F.len; omega, fun f' s' h => ?_⟩
  simp only [hget_hset', hset_length, F.lt, show ¬ f' = q by omega, false_and, if_false, lk]
  exact F.low f' s' (by omega)
theorem sized_fz (v : V) (l : Bytes) (hv : IsBytes v l) (n : Nat) (hn0 : n ≤ 1000000) : Fz Try.prog pol 56 [v, .int .i64 n] fun r => IsBytes r (sized l n) := by
  refine Fz.of_cr ((sized_cr [] v l hv n hn0).mono ?_)
  rintro _ H' ⟨rfl, hg, _⟩
  refine ⟨_, frz_bytes (l := sized l n) hg ?_ ?_, ?_⟩
  · rw [List.drop_zero, List.take_of_length_le]; rw [ofBytes_length, sized_len]; exact Nat.le_refl _
  · rw [ofBytes_length, sized_len]; omega
  · have := IsBytes.mk (sized l n) (some n == some n)
    rwa [sized_len] at this

theorem cut1_cr (K : Heap) (q : Nat) (a : Loc) (L : MLine) (ok : LineOk L) (l : List Ob) (bs : List Nat) (clk : Nat) (hL : LineAt K a L l bs clk) (c : MCall) (dv : V) (m : Int) (h0 : 0 ≤ m) (h1 : m < 16) (o : Ob) (ho : l[m.toNat]? = some o) (d : Bytes) (hd : IsBytes o.data d)
    (n : Nat) (hc : c.b = n) (hb : n ≤ 3840)
    (hf : a.f < q) (g5 : hget K q 5 = some (.cells [.int .i64 m])) (g2 : hget K q 2 = some (.cells [.ptr a.f a.s 0])) (g3 : hget K q 3 = some (.cells (callC c dv))) :
    CR Try.prog pol 57 [.ptr q 2 0, .ptr q 5 0, .ptr q 3 0] K fun _ K' => ∃ v, IsBytes v (sized d n) ∧ Ch K K' [(a.f, a.s, .cells (lineC a L.snap L.owner L.prev (l.set m.toNat { o with data := v })))] := by
  refine cr_of Try.func57 rfl ?_
  intro r J hn F
  have A := F.at_ hn hL.cells
  have B := F.at_ hn hL.names
  have G5 := F.at_ hn g5
  have G2 := F.at_ hn g2
  have G3 := F.at_ hn g3
  simp only [walk, walkL, evOp, quietOp, farOp, nov, gd, rho, putT, wr, Nat.reduceAdd, Nat.reduceSub, Bool.false_eq_true, if_true, if_false, reduceIte, reduceCtorEq, walkM, Int.reduceBEq, Int.reduceBNe, Int.reduceLT, Int.reduceLE, decide_true, decide_false, eq_self, Bool.not_true, Bool.not_false, ↓ev_fa, ↓ev_field, ↓ev_load, ↓ev_store, stO_cells, List.all_cons, List.all_nil, Bool.and_self, Bool.and_true, Try.ntmps57, ta57, new, hget_hset', hset_length, and_false, false_and, and_true, true_and, and_self, Nat.reduceEqDiff, Nat.reduceLT, Nat.lt_irrefl, Nat.not_lt_zero, zerosN, fillV, walkB, pureL, V.pure, Nat.reduceMul, Nat.reduceLeDiff, Nat.one_ne_zero, List.take_zero, List.drop_succ_cons, List.drop_zero, List.take_succ_cons, List.replicate_one, List.drop_nil, List.take_nil, Nat.le_refl, Nat.zero_add, Nat.zero_mul, Nat.one_mul, Nat.mul_one, A.get, A.ltK, B.get, B.ltK, lc_0, lc_1, lc_2, lc_3, lc_4, Nat.add_zero, callC, G5.get, G2.get, G3.get, ia_ob h0 h1, lc_data ho, hc]
  refine W.pcallT (sized_fz o.data d hd n (by omega)) rfl rfl (frzL_cons (hd.frz _) rfl) ?_
  intro v hv
  have cv : v.cells = some [v] := by
    obtain ⟨_, ⟨rfl, _⟩ | ⟨f, rfl⟩⟩ := hv <;> rfl
  simp only [walk, walkL, evOp, quietOp, farOp, nov, gd, rho, putT, wr, Nat.reduceAdd, Nat.reduceSub, Bool.false_eq_true, if_true, if_false, reduceIte, reduceCtorEq, walkM, Int.reduceBEq, Int.reduceBNe, Int.reduceLT, Int.reduceLE, decide_true, decide_false, eq_self, Bool.not_true, Bool.not_false, ↓ev_fa, ↓ev_field, ↓ev_load, ↓ev_store, stO_cells, List.all_cons, List.all_nil, Bool.and_self, Bool.and_true, ta57, new, hget_hset', hset_length, and_false, false_and, and_true, true_and, and_self, Nat.reduceEqDiff, Nat.reduceLT, Nat.lt_irrefl, Nat.not_lt_zero, zerosN, fillV, walkB, pureL, V.pure, Nat.reduceMul, Nat.reduceLeDiff, Nat.one_ne_zero, List.take_zero, List.drop_succ_cons, List.drop_zero, List.take_succ_cons, List.replicate_one, List.drop_nil, List.take_nil, Nat.le_refl, Nat.zero_add, Nat.zero_mul, Nat.one_mul, Nat.mul_one, A.get, A.ltK, B.get, B.ltK, lc_0, lc_1, lc_2, lc_3, lc_4, Nat.add_zero, callC, G5.get, G2.get, G3.get, ia_ob h0 h1, cv, st_data ho]
  refine W.opsK (by kernel_rfl) ?_
  simp only [walk, walkL, evOp, quietOp, farOp, nov, gd, rho, putT, wr, Nat.reduceAdd, Nat.reduceSub, Bool.false_eq_true, if_true, if_false, reduceIte, reduceCtorEq, walkM, Int.reduceBEq, Int.reduceBNe, Int.reduceLT, Int.reduceLE, decide_true, decide_false, eq_self, Bool.not_true, Bool.not_false, ↓ev_fa, ↓ev_field, ↓ev_load, ↓ev_store, stO_cells, List.all_cons, List.all_nil, Bool.and_self, Bool.and_true]
  exact W.done (EndK.normal rfl ⟨v, hv, (F.ch hn (by first | rfl | simp only [hset_length]) (fun f' s' h => by simp only [hget_hset', hset_length, F.lt, A.ltK, B.ltK, w64, Nat.ne_of_lt h, false_and, if_false, AM.lk]))⟩)

theorem lc_putData {a : Loc} {sn : Bool} {ow pr : Int} {l : List Ob} {i : Nat} {o : Ob} (h : l[i]? = some o) (v : V) : (lineC a sn ow pr l).set (5 + i * 3 + 2) v = lineC a sn ow pr (l.set i { o with data := v }) := by
  rw [← lc_setData h v]
  have hl := lt_of_get h
  rw [List.set_eq_take_append_cons_drop, if_pos (by rw [lc_len]; omega)]
  simp [splice]

theorem over_eq (xs m : Bytes) (o : Nat) (h : o + m.length ≤ xs.length) : xs.take o ++ m.take (min m.length (xs.length - o)) ++ xs.drop (o + min m.length (xs.length - o)) = over xs o m := by
  rw [Nat.min_eq_left (by omega), List.take_of_length_le (Nat.le_refl _)]; rfl
theorem over_len (xs m : Bytes) (o : Nat) (h : o + m.length ≤ xs.length) : (over xs o m).length = xs.length := by
  simp [over]; omega

theorem write1_cr (K : Heap) (q : Nat) (a : Loc) (L : MLine) (ok : LineOk L) (l : List Ob) (bs : List Nat) (clk : Nat) (hL : LineAt K a L l bs clk) (c : MCall) (dv : V) (hdv : IsBytes dv c.data) (m : Int) (h0 : 0 ≤ m) (h1 : m < 16) (o : Ob) (ho : l[m.toNat]? = some o) (d : Bytes) (hd : IsBytes o.data d)
    (hdl : d.length ≤ 3840) (n : Nat) (hc : c.c = n) (hb : n + c.data.length ≤ 3840)
    (hf : a.f < q) (g5 : hget K q 5 = some (.cells [.int .i64 m])) (g2 : hget K q 2 = some (.cells [.ptr a.f a.s 0])) (g3 : hget K q 3 = some (.cells (callC c dv))) :
    CR Try.prog pol 55 [.ptr q 2 0, .ptr q 5 0, .ptr q 3 0] K fun _ K' => ∃ v, IsBytes v (wrote d n c.data) ∧ Ch K K' [(a.f, a.s, .cells (lineC a L.snap L.owner L.prev (l.set m.toNat { o with data := v })))] := by
  refine cr_ofS Try.func55 rfl ?_
  intro r J hn F
  have A := F.at_ hn hL.cells
  have B := F.at_ hn hL.names
  have G5 := F.at_ hn g5
  have G2 := F.at_ hn g2
  have G3 := F.at_ hn g3
  have ln1 := hdv.len Try.underlying26
  have ln2 := hd.len Try.underlying26
  simp only [walk, walkL, evOp, quietOp, farOp, nov, gd, rho, putT, wr, Nat.reduceAdd, Nat.reduceSub, Bool.false_eq_true, if_true, if_false, reduceIte, reduceCtorEq, walkM, Int.reduceBEq, Int.reduceBNe, Int.reduceLT, Int.reduceLE, decide_true, decide_false, eq_self, Bool.not_true, Bool.not_false, ↓ev_fa, ↓ev_field, ↓ev_load, ↓ev_store, stO_cells, List.all_cons, List.all_nil, Bool.and_self, Bool.and_true, Try.ntmps55, ta55, new, hget_hset', hset_length, and_false, false_and, and_true, true_and, and_self, Nat.reduceEqDiff, Nat.reduceLT, Nat.lt_irrefl, Nat.not_lt_zero, zerosN, fillV, walkB, pureL, V.pure, Nat.reduceMul, Nat.reduceLeDiff, Nat.one_ne_zero, List.take_zero, List.drop_succ_cons, List.drop_zero, List.take_succ_cons, List.replicate_one, List.drop_nil, List.take_nil, Nat.le_refl, Nat.zero_add, Nat.zero_mul, Nat.one_mul, Nat.mul_one, A.get, A.ltK, B.get, B.ltK, lc_0, lc_1, lc_2, lc_3, lc_4, Nat.add_zero, callC, G5.get, G2.get, G3.get, ia_ob h0 h1]
  refine W.opsK (by kernel_rfl) ?_
  simp only [walk, walkL, evOp, quietOp, farOp, nov, gd, rho, putT, wr, Nat.reduceAdd, Nat.reduceSub, Bool.false_eq_true, if_true, if_false, reduceIte, reduceCtorEq, walkM, Int.reduceBEq, Int.reduceBNe, Int.reduceLT, Int.reduceLE, decide_true, decide_false, eq_self, Bool.not_true, Bool.not_false, ↓ev_fa, ↓ev_field, ↓ev_load, ↓ev_store, stO_cells, List.all_cons, List.all_nil, Bool.and_self, Bool.and_true, ta55, new, hget_hset', hset_length, and_false, false_and, and_true, true_and, and_self, Nat.reduceEqDiff, Nat.reduceLT, Nat.lt_irrefl, Nat.not_lt_zero, zerosN, fillV, walkB, pureL, V.pure, Nat.reduceMul, Nat.reduceLeDiff, Nat.one_ne_zero, List.take_zero, List.drop_succ_cons, List.drop_zero, List.take_succ_cons, List.replicate_one, List.drop_nil, List.take_nil, Nat.le_refl, Nat.zero_add, Nat.zero_mul, Nat.one_mul, Nat.mul_one, A.get, A.ltK, B.get, B.ltK, lc_0, lc_1, lc_2, lc_3, lc_4, Nat.add_zero, callC, G5.get, G2.get, G3.get, ia_ob h0 h1, ln1]
  refine W.ite (fun hz => ?_) (fun hz => ?_)
  · have hz' : 0 < c.data.length := by have := of_decide_eq_true hz; omega
    have mx : (if (n : Int) + c.data.length > (d.length : Int) then (n : Int) + c.data.length else (d.length : Int)) = ((max d.length (n + c.data.length) : Nat) : Int) := by
      split <;> omega
    have w1 : (IntKind.i64).wrap ((n : Int) + c.data.length) = (n : Int) + c.data.length := by rw [wrap_i64] <;> omega
    simp only [walk, walkL, evOp, quietOp, farOp, nov, gd, rho, putT, wr, Nat.reduceAdd, Nat.reduceSub, Bool.false_eq_true, if_true, if_false, reduceIte, reduceCtorEq, walkM, Int.reduceBEq, Int.reduceBNe, Int.reduceLT, Int.reduceLE, decide_true, decide_false, eq_self, Bool.not_true, Bool.not_false, ↓ev_fa, ↓ev_field, ↓ev_load, ↓ev_store, stO_cells, List.all_cons, List.all_nil, Bool.and_self, Bool.and_true, ta55, new, hget_hset', hset_length, and_false, false_and, and_true, true_and, and_self, Nat.reduceEqDiff, Nat.reduceLT, Nat.lt_irrefl, Nat.not_lt_zero, zerosN, fillV, walkB, pureL, V.pure, Nat.reduceMul, Nat.reduceLeDiff, Nat.one_ne_zero, List.take_zero, List.drop_succ_cons, List.drop_zero, List.take_succ_cons, List.replicate_one, List.drop_nil, List.take_nil, Nat.le_refl, Nat.zero_add, Nat.zero_mul, Nat.one_mul, Nat.mul_one, A.get, A.ltK, B.get, B.ltK, lc_0, lc_1, lc_2, lc_3, lc_4, Nat.add_zero, callC, G5.get, G2.get, G3.get, ia_ob h0 h1, ln1, ln2, lc_data ho, hc, w1, mx]
    refine W.callT (sized_cr J o.data d hd (max d.length (n + c.data.length)) (by omega)) rfl rfl rfl rfl rfl ?_
    rintro _ J2 ⟨rfl, g7, c2⟩
    have hJ : J.length = r + 1 := F.len
    have lp := hget_lt g7
    have a2 : hget J2 a.f a.s = _ := (c2.get a.f a.s A.ltK).trans A.get
    have b5 : hget J2 q 5 = _ := (c2.get q 5 G5.ltK).trans G5.get
    have b2 : hget J2 q 2 = _ := (c2.get q 2 G2.ltK).trans G2.get
    have b3 : hget J2 q 3 = _ := (c2.get q 3 G3.ltK).trans G3.get
    have al : a.f < J2.length := by have := A.ltK; omega
    have ne4 : ¬ q = a.f := by omega
    generalize hN : max d.length (n + c.data.length) = N at *
    generalize hp : J.length = p at *
    have ne5 : ¬ p = a.f := by have := A.lt; omega
    have ho2 : (l.set m.toNat { o with data := .mslice p 7 0 N (some N) 1 })[m.toNat]? = some { o with data := .mslice p 7 0 N (some N) 1 } := by rw [List.getElem?_set, if_pos rfl, if_pos (lt_of_get ho)]
    have cf := cut_from (P := Try.prog) (u := 26) Try.underlying26 sz5 (f := p) (s := 7) (o := 0) (len := N) (c := N) (w := n) (k := .i64) (by omega) (by omega)
    rw [if_neg (show ¬ N = n by omega)] at cf
    have cp : ∀ g : Get, g p 7 = some (.cells (ofBytes (sized d N))) → copyV Try.prog g 26 (.mslice p 7 (0 + n * 1) (N - n) (some (N - n)) 1) dv = some (.val (.int .i64 (min c.data.length (N - n) : Nat)) (some (p, 7, .cells (ofBytes (over (sized d N) n c.data))))) := fun g hg => by
      rw [copy_bytes Try.underlying26 sz5 hg (by rw [sized_len]; omega) (IsSl.sc hdv) hdv.notStr]
      have := over_eq (sized d N) c.data n (by rw [sized_len]; omega)
      rw [sized_len] at this
      rw [Nat.zero_add, Nat.mul_one, this]
    simp only [walk, walkL, evOp, quietOp, farOp, nov, gd, rho, putT, wr, Nat.reduceAdd, Nat.reduceSub, Bool.false_eq_true, if_true, if_false, reduceIte, reduceCtorEq, walkM, Int.reduceBEq, Int.reduceBNe, Int.reduceLT, Int.reduceLE, decide_true, decide_false, eq_self, Bool.not_true, Bool.not_false, ↓ev_fa, ↓ev_field, ↓ev_load, ↓ev_store, stO_cells, List.all_cons, List.all_nil, Bool.and_self, Bool.and_true, ta55, new, hget_hset', hset_length, and_false, false_and, and_true, true_and, and_self, Nat.reduceEqDiff, Nat.reduceLT, Nat.lt_irrefl, Nat.not_lt_zero, zerosN, fillV, walkB, pureL, V.pure, Nat.reduceMul, Nat.reduceLeDiff, Nat.one_ne_zero, List.take_zero, List.drop_succ_cons, List.drop_zero, List.take_succ_cons, List.replicate_one, List.drop_nil, List.take_nil, Nat.le_refl, Nat.zero_add, Nat.zero_mul, Nat.one_mul, Nat.mul_one, lc_0, lc_1, lc_2, lc_3, lc_4, Nat.add_zero, callC, a2, b5, b2, b3, al, ia_ob h0 h1, st_data ho]
    refine W.opsK (by kernel_rfl) ?_
    have g72 : hget (hset J2 a.f a.s (.cells (lineC a L.snap L.owner L.prev (l.set m.toNat { o with data := .mslice p 7 0 N (some N) 1 })))) p 7 = some (.cells (ofBytes (sized d N))) := by rw [hget_frame al ne5]; exact g7
    simp only [walk, walkL, evOp, quietOp, farOp, nov, gd, rho, putT, wr, Nat.reduceAdd, Nat.reduceSub, Bool.false_eq_true, if_true, if_false, reduceIte, reduceCtorEq, walkM, Int.reduceBEq, Int.reduceBNe, Int.reduceLT, Int.reduceLE, decide_true, decide_false, eq_self, Bool.not_true, Bool.not_false, ↓ev_fa, ↓ev_field, ↓ev_load, ↓ev_store, stO_cells, List.all_cons, List.all_nil, Bool.and_self, Bool.and_true, ta55, new, hget_hset', hset_length, and_false, false_and, and_true, true_and, and_self, Nat.reduceEqDiff, Nat.reduceLT, Nat.lt_irrefl, Nat.not_lt_zero, callC, al, b3, ne4, lc_data ho2, hc, ↓cf, bi_copy, ↓cp _ g72]
    refine W.opsK (by kernel_rfl) ?_
    simp only [walk, walkL, evOp, quietOp, farOp, nov, gd, rho, putT, wr, Nat.reduceAdd, Nat.reduceSub, Bool.false_eq_true, if_true, if_false, reduceIte, reduceCtorEq, walkM, Int.reduceBEq, Int.reduceBNe, Int.reduceLT, Int.reduceLE, decide_true, decide_false, eq_self, Bool.not_true, Bool.not_false, ↓ev_fa, ↓ev_field, ↓ev_load, ↓ev_store, stO_cells, List.all_cons, List.all_nil, Bool.and_self, Bool.and_true]
    have hov : (over (sized d N) n c.data).length = N := by rw [over_len _ _ _ (by rw [sized_len]; omega), sized_len]
    have l1 : a.f < (hset (hset J2 a.f a.s (.cells (lineC a L.snap L.owner L.prev (l.set m.toNat { o with data := .mslice p 7 0 N (some N) 1 })))) p 7 (.cells (ofBytes (over (sized d N) n c.data)))).length := by simp only [hset_length]; exact al
    have l2 : p < (hset J2 a.f a.s (.cells (lineC a L.snap L.owner L.prev (l.set m.toNat { o with data := .mslice p 7 0 N (some N) 1 })))).length := by simp only [hset_length]; exact lp
    have se := fun t ht => settle1_at (t := t) (k := 32) (H := hset (hset J2 a.f a.s (.cells (lineC a L.snap L.owner L.prev (l.set m.toNat { o with data := .mslice p 7 0 N (some N) 1 })))) p 7 (.cells (ofBytes (over (sized d N) n c.data))))
      (f := a.f) (s := a.s) (o := 5 + m.toNat * 3 + 2) (f1 := p) (s1 := 7) (o1 := 0) (len := N) (esz := 1) (cap := some N) ht
      (by rw [hget_frame l2 (fun e => ne5 e.symm), hget_same al]) (lc_data ho2) (hget_same l2) (by rw [ofBytes_length, hov]; omega) (pureL_ofBytes _) (fun e => ne5 e.1.symm)
    have e1 : wrote d n c.data = over (sized d N) n c.data := by rw [wrote, if_neg (by omega), hN]
    have e2 : (ofBytes (over (sized d N) n c.data)).take (N * 1) = ofBytes (wrote d n c.data) := by
      rw [List.take_of_length_le (by rw [ofBytes_length, hov]; omega), e1]
    have e3 : (wrote d n c.data).length = N := by rw [e1]; exact hov
    refine W.done ⟨_, by
      show settleL [32] _ _ = _
      simp only [settleL]
      rw [se _ rfl], EndK.ret rfl ⟨.islice (ofBytes (wrote d n c.data)) N (some N == some N), ?_, ?_⟩⟩
    · have := IsBytes.mk (wrote d n c.data) (some N == some N)
      rwa [e3] at this
    · rw [← e2]
      refine F.ch' hn (by simp only [hset_length]; omega) (fun f' s' h => ?_)
      have e4 := lc_putData (a := a) (sn := L.snap) (ow := L.owner) (pr := L.prev) ho2 (.islice ((ofBytes (over (sized d N) n c.data)).take (N * 1)) N (some N == some N))
      simp only [List.set_set] at e4
      simp only [List.drop_zero, e4]
      have f1 : ¬ f' = p := by omega
      simp only [hget_hset', hset_length, al, lp, f1, false_and, if_false, lk]
      split
      · rfl
      · rw [c2.get f' s' (by omega)]; rfl
  · have hz' : c.data.length = 0 := by have := of_decide_eq_false hz; omega
    simp only [walk, walkL, evOp, quietOp, farOp, nov, gd, rho, putT, wr, Nat.reduceAdd, Nat.reduceSub, Bool.false_eq_true, if_true, if_false, reduceIte, reduceCtorEq, walkM, Int.reduceBEq, Int.reduceBNe, Int.reduceLT, Int.reduceLE, decide_true, decide_false, eq_self, Bool.not_true, Bool.not_false, ↓ev_fa, ↓ev_field, ↓ev_load, ↓ev_store, stO_cells, List.all_cons, List.all_nil, Bool.and_self, Bool.and_true]
    have hw : wrote d n c.data = d := by rw [wrote, if_pos hz']
    have hst : l.set m.toNat { o with data := o.data } = l := by
      obtain ⟨hl, rfl⟩ := List.getElem?_eq_some_iff.1 ho
      exact List.set_getElem_self hl
    refine W.done ⟨J, rfl, EndK.ret rfl ⟨o.data, by rw [hw]; exact hd, ?_⟩⟩
    rw [hst]
    refine F.ch hn rfl (fun f' s' h => ?_)
    simp only [lk]
    split
    · rename_i e; obtain ⟨rfl, rfl⟩ := e; exact A.get
    · rfl
end Go.Proofs.Ytebbgmeomkjibaa
end
