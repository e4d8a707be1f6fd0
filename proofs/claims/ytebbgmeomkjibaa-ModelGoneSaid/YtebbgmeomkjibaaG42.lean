/- This file holds in one the texts O17, O18, O6; each says at its head what it proves. -/
import Derived.Test.YtebbgmeomkjibaaG29
import Derived.Test.YtebbgmeomkjibaaG32
import Derived.Test.YtebbgmeomkjibaaG41
set_option linter.unusedSimpArgs false
set_option linter.unusedVariables false
section
/- model: all, twin. -/
set_option maxRecDepth 100000
namespace Go.Proofs.Ytebbgmeomkjibaa
open Go.AM Go.Mod

attribute [local irreducible] U W lineC

theorem keysI_cr (H : Heap) (nf ns : Nat) : CR Try.prog pol 44 [.map nf ns] H fun v H' => v = .func (.func 64) [] [.ptr H.length 1 0] ∧ hget H' H.length 1 = some (.cells [.map nf ns]) ∧ Ch H H' [] := by
  refine cr_of Try.func44 rfl ?_
  intro n K hn F
  simp only [walk, walkL, evOp, quietOp, farOp, nov, gd, rho, putT, wr, Nat.reduceAdd, Nat.reduceSub, Bool.false_eq_true, if_true, if_false, reduceIte, reduceCtorEq, walkM, Int.reduceBEq, Int.reduceBNe, Int.reduceLT, Int.reduceLE, decide_true, decide_false, eq_self, Bool.not_true, Bool.not_false, ↓ev_fa, ↓ev_field, ↓ev_load, ↓ev_store, stO_cells, List.all_cons, List.all_nil, Bool.and_self, Bool.and_true, Try.ntmps44, new, hget_hset', hset_length, and_false, false_and, and_true, true_and, and_self, Nat.reduceEqDiff, Nat.reduceLT, Nat.lt_irrefl, Nat.not_lt_zero, zerosN, fillV, walkB, pureL, V.pure, Nat.reduceMul, Nat.reduceLeDiff, Nat.one_ne_zero, List.take_zero, List.drop_succ_cons, List.drop_zero, List.take_succ_cons, List.replicate_one, List.drop_nil, List.take_nil, Nat.le_refl, Nat.zero_add, Nat.zero_mul, Nat.one_mul, Nat.mul_one, F.own, F.lt]
  refine W.done (EndK.ret rfl ?_)
  rw [popF_keep (by simp only [List.getD_cons_succ, List.getD_cons_zero, V.refs, refsL]; simp)]
  refine ⟨by rw [← hn]; rfl, by rw [← hn]; exact hget_same F.lt, by simp only [hset_length]; have := F.len; omega, fun f' s' h => ?_⟩
  rw [hget_frame F.lt (by omega), F.low f' s' (by omega)]; rfl
theorem keysInt_lines : ∀ l : List Ent, keysInt (encL l) = some (ids (linesOf l))
  | [] => rfl
  | p :: l => by
    have := keysInt_lines l
    simp only [encL, ids, linesOf, List.map_cons, List.map_map] at this ⊢
    simp only [keysInt, this]

theorem all_h : HSpec 26 hAll := by
  rintro H h S N c dv ⟨xs, kl, hh⟩ ok hN hc
  refine cr_of Try.func26 rfl ?_
  intro n K hn F
  have sdv := IsSl.scalar hc.data
  obtain ⟨bs, clk, hm, hb⟩ := hh.lmap
  have A := F.at_ hn hh.cell
  have B := F.at_ hn hm
  simp only [walk, walkL, evOp, quietOp, farOp, nov, gd, rho, putT, wr, Nat.reduceAdd, Nat.reduceSub, Bool.false_eq_true, if_true, if_false, reduceIte, reduceCtorEq, walkM, Int.reduceBEq, Int.reduceBNe, Int.reduceLT, Int.reduceLE, decide_true, decide_false, eq_self, Bool.not_true, Bool.not_false, ↓ev_fa, ↓ev_field, ↓ev_load, ↓ev_store, stO_cells, List.all_cons, List.all_nil, Bool.and_self, Bool.and_true, Try.ntmps26, ta26, new, hget_hset', hset_length, and_false, false_and, and_true, true_and, and_self, Nat.reduceEqDiff, Nat.reduceLT, Nat.lt_irrefl, Nat.not_lt_zero, splice, zerosN, fillV, walkB, pureL, V.pure, Nat.reduceMul, Nat.reduceLeDiff, Nat.one_ne_zero, List.take_zero, List.drop_succ_cons, List.drop_zero, List.take_succ_cons, List.replicate_one, List.drop_nil, List.take_nil, Nat.le_refl, Nat.zero_add, Nat.zero_mul, Nat.one_mul, Nat.mul_one, A.get, A.ltK, B.get, B.ltK, lc_0, lc_1, lc_2, lc_3, lc_4, Nat.add_zero, callC, A.ne, F.own, F.lt, sdv]
  refine W.call (keysI_cr _ h.mf h.ms) rfl rfl rfl rfl rfl ?_
  rintro _ J ⟨rfl, g1, cj⟩
  generalize hq : List.length _ = q at g1
  have lj : n < J.length := cj.lt (by simp only [hset_length]; exact F.lt)
  have lowj : ∀ f s, f < n → hget J f s = hget H f s := fun f s h => by
    rw [cj.get f s (by simp only [hset_length]; have := F.lt; omega)]
    simp only [hget_hset', hset_length, F.lt, Nat.ne_of_lt h, false_and, if_false, lk]; exact F.low f s h
  have oj := fun s => cj.own (s := s) (f := n) (by simp only [hset_length]; exact F.lt) (by simp)
  have bj : hget J h.mf h.ms = _ := (lowj _ _ B.lt).trans hm
  have ps : primSortInt 64 n (some 10) (hget J) [.func (.func 64) [] [.ptr q 1 0]] = some (sortedV ((sortZ (ids S.lines)).map (.int .i64)), none) := by
    simp only [primSortInt, if_true, g1, bj, keysInt_lines, ← hh.lines]
    have l0 := ok.last0
    have l1 := ok.last1
    have sh : ∀ x ∈ ids S.lines, -9223372036854775808 ≤ x ∧ x < 9223372036854775808 := fun x hx => by
      obtain ⟨p, hp, rfl⟩ := List.mem_map.1 hx
      have := ok.id0 p hp
      have := ok.id1 p hp
      omega
    have cnt : (ids S.lines).length ≤ 1048576 := by
      have := ok.cnt
      simp only [ids, List.length_map]; omega
    rw [if_pos ⟨ok.uniq, hb.uniq, hb.lt, sh, cnt⟩]
  simp only [walk, walkL, evOp, quietOp, farOp, nov, gd, rho, putT, wr, Nat.reduceAdd, Nat.reduceSub, Bool.false_eq_true, if_true, if_false, reduceIte, reduceCtorEq, walkM, Int.reduceBEq, Int.reduceBNe, Int.reduceLT, Int.reduceLE, decide_true, decide_false, eq_self, Bool.not_true, Bool.not_false, ↓ev_fa, ↓ev_field, ↓ev_load, ↓ev_store, stO_cells, List.all_cons, List.all_nil, Bool.and_self, Bool.and_true, hq]
  refine W.prim (g := primSortInt 64) rfl ps ?_
  have sl := isSl_sorted ((sortZ (ids S.lines)).map (.int .i64))
  have scl := IsSl.scalar sl
  have cl := IsSl.cells sl
  generalize sortedV ((sortZ (ids S.lines)).map (.int .i64)) = sv at *
  simp only [walk, walkL, evOp, quietOp, farOp, nov, gd, rho, putT, wr, Nat.reduceAdd, Nat.reduceSub, Bool.false_eq_true, if_true, if_false, reduceIte, reduceCtorEq, walkM, Int.reduceBEq, Int.reduceBNe, Int.reduceLT, Int.reduceLE, decide_true, decide_false, eq_self, Bool.not_true, Bool.not_false, ↓ev_fa, ↓ev_field, ↓ev_load, ↓ev_store, stO_cells, List.all_cons, List.all_nil, Bool.and_self, Bool.and_true, ta26, new, hget_hset', hset_length, and_false, false_and, and_true, true_and, and_self, Nat.reduceEqDiff, Nat.reduceLT, Nat.lt_irrefl, Nat.not_lt_zero, splice, zerosN, fillV, walkB, pureL, V.pure, Nat.reduceMul, Nat.reduceLeDiff, Nat.one_ne_zero, List.take_zero, List.drop_succ_cons, List.drop_zero, List.take_succ_cons, List.replicate_one, List.drop_nil, List.take_nil, Nat.le_refl, Nat.zero_add, Nat.zero_mul, Nat.one_mul, Nat.mul_one, lj, oj, F.lt, cl, scl]
  refine W.done (EndK.ret (res_cell rfl rfl (hget_same (by first | exact F.lt | assumption | (simp only [hset_length]; first | exact F.lt | assumption))) (by rw [rd36]; rfl)) ⟨⟨.nilslice, .nilslice, sv, rfl, IsBytes.nil, IsSl.nil, ?_⟩, ⟨xs, kl, hh.ch (Ch.fin hn lowj lj (Ch.refl J)), hh.kOut⟩, .of_ch0 (Ch.fin hn lowj lj (Ch.refl J))⟩)
  unfold IsInts ofInts
  simpa [hAll] using sl

theorem W.primw {P : Program} {pol : Pol} {L : MBody → Body} {fn fr : Nat} {t : List V} {H : Heap} {d : Option Nat} {k k' : List It} {Q : Ex → List V → Heap → Prop} {f : FuncId} {args : List V} {g : Nat → Option Nat → Get → List V → Option (V × Option (Nat × Nat × O))} {v : V} {w : Nat × Nat × O}
    (hp : pol.prim f = some g) (hg : g fr d (hget H) args = some (v, some w)) (h2 : W (U P pol (callW P pol) L fn fr k .normal (putT t d v) (hset H w.1 w.2.1 w.2.2)) Q) : W (UC P pol (callW P pol) L fn fr (callOp pol (callW P pol) fn fr d f args H) d k k' t) Q := by
  have e : callOp pol (callW P pol) fn fr d f args H = some (.ret v, hset H w.1 w.2.1 w.2.2) := by
    simp only [callOp, hp, hg, Option.map_some]; rfl
  rw [e]; exact h2

theorem mclone_cr (H : Heap) (nf ns : Nat) (es : List (V × V)) (bs : List Nat) (clk : Nat) (hg : hget H nf ns = some (.map es bs clk)) : CR Try.prog pol 61 [.map nf ns] H fun v H' => v = .map H.length 7 ∧ hget H' H.length 7 = some (.map es bs clk) ∧ Ch H H' [] := by
  refine cr_of Try.func61 rfl ?_
  intro n K hn F
  have A := F.at_ hn hg
  have z : zer Try.prog 62 = some (.map none) := by kernel_rfl
  simp only [walk, walkL, evOp, quietOp, farOp, nov, gd, rho, putT, wr, Nat.reduceAdd, Nat.reduceSub, Bool.false_eq_true, if_true, if_false, reduceIte, reduceCtorEq, walkM, Int.reduceBEq, Int.reduceBNe, Int.reduceLT, Int.reduceLE, decide_true, decide_false, eq_self, Bool.not_true, Bool.not_false, ↓ev_fa, ↓ev_field, ↓ev_load, ↓ev_store, stO_cells, List.all_cons, List.all_nil, Bool.and_self, Bool.and_true, Try.ntmps61, ta61, new, hget_hset', hset_length, and_false, false_and, and_true, true_and, and_self, Nat.reduceEqDiff, Nat.reduceLT, Nat.lt_irrefl, Nat.not_lt_zero, zerosN, fillV, walkB, pureL, V.pure, Nat.reduceMul, Nat.reduceLeDiff, Nat.one_ne_zero, List.take_zero, List.drop_succ_cons, List.drop_zero, List.take_succ_cons, List.replicate_one, List.drop_nil, List.take_nil, Nat.le_refl, Nat.zero_add, Nat.zero_mul, Nat.one_mul, Nat.mul_one, F.own, F.lt, bn_mp1 Try.underlying62, Try.underlying62]
  refine W.primw (g := primClone) rfl (v := .face 62 (.map n 7)) (w := (n, 7, .map es bs clk)) ?_ ?_
  · simp only [primClone, F.own, A.get]
  · simp only [walk, walkL, evOp, quietOp, farOp, nov, gd, rho, putT, wr, Nat.reduceAdd, Nat.reduceSub, Bool.false_eq_true, if_true, if_false, reduceIte, reduceCtorEq, walkM, Int.reduceBEq, Int.reduceBNe, Int.reduceLT, Int.reduceLE, decide_true, decide_false, eq_self, Bool.not_true, Bool.not_false, ↓ev_fa, ↓ev_field, ↓ev_load, ↓ev_store, stO_cells, List.all_cons, List.all_nil, Bool.and_self, Bool.and_true, Try.underlying62, z]
    refine W.done (EndK.ret rfl ?_)
    rw [popF_keep (by simp only [List.getD_cons_succ, List.getD_cons_zero, V.refs]; simp)]
    refine ⟨by rw [← hn]; rfl, by rw [← hn]; exact hget_same F.lt, by simp only [hset_length]; have := F.len; omega, fun f' s' h => ?_⟩
    rw [hget_frame F.lt (by omega), F.low f' s' (by omega)]; rfl
end Go.Proofs.Ytebbgmeomkjibaa
end
section
/- model: twin. -/
set_option maxRecDepth 100000
namespace Go.Proofs.Ytebbgmeomkjibaa
open Go.AM Go.Mod

attribute [local irreducible] U W lineC

theorem obs_scalar : ∀ (l : List Ob), (∀ o ∈ l, o.data.scalar = true) → (obs l).all V.scalar = true
  | [], _ => rfl
  | o :: l, h => by
    rw [obs_cons]
    simp only [List.all_cons, h o (by simp), obs_scalar l fun x hx => h x (List.mem_cons_of_mem _ hx)]
    rfl
theorem ObsAt.scalar {l : List Ob} {m : List MObj} (h : ObsAt l m) : ∀ o ∈ l, o.data.scalar = true := by
  intro o ho
  obtain ⟨i, hi, rfl⟩ := List.getElem_of_mem ho
  have hm : i < m.length := by rw [← h.len]; exact hi
  exact IsSl.scalar (h.get i _ _ (List.getElem?_eq_getElem hi) (List.getElem?_eq_getElem hm)).2.2
section
variable {a : Loc} {sn : Bool} {ow pr : Int} {l : List Ob} {m : List MObj} {f s : Nat}
unseal lineC in
theorem lc_scalar (h : ObsAt l m) : (lineC a sn ow pr l).all V.scalar = true := by
  simp only [lineC, List.all_cons, obs_scalar l h.scalar]; rfl
unseal lineC in
theorem lc_at {f s f' s' nf ns kf ks : Nat} : lineC ⟨f, s, nf, ns, kf, ks⟩ sn ow pr l = lineC ⟨f', s', nf, ns, kf, ks⟩ sn ow pr l := rfl
theorem lc_cells (h : ObsAt l m) : (V.agg (lineC a sn ow pr l)).cells = some (lineC a sn ow pr l) := by
  rw [cells_agg, if_pos (lc_scalar h)]
theorem ra_line (h : l.length = 16) : readAt Try.prog 67 (lineC a sn ow pr l) 0 = some (.agg (lineC a sn ow pr l)) := by
  rw [rd67, if_pos (by rw [lc_len]; omega), List.drop_zero, List.take_of_length_le (by rw [lc_len]; omega)]
theorem st_line (h : l.length = 16) {z : List V} (hz : z.length = 53) : stO 53 f s 0 (lineC a sn ow pr l) (some (.cells z)) = some (.val .bad (some (f, s, .cells (lineC a sn ow pr l)))) := by
  rw [stO_cells, if_pos ⟨by rw [lc_len]; omega, by omega⟩]
  unfold splice
  rw [List.take_zero, List.nil_append, List.drop_of_length_le (by rw [lc_len]; omega), List.append_nil]
unseal lineC in
theorem st_names {nf ns : Nat} : stO 1 f s 4 [.map nf ns] (some (.cells (lineC a sn ow pr l))) = some (.val .bad (some (f, s, .cells (lineC { a with nf := nf, ns := ns } sn ow pr l)))) := by
  rw [stO_cells, if_pos ⟨rfl, by rw [lc_len]; omega⟩]; rfl
end

theorem twin_cr (H : Heap) (a : Loc) (L : MLine) (ok : LineOk L) (l : List Ob) (bs : List Nat) (clk : Nat) (hL : LineAt H a L l bs clk) :
    CR Try.prog pol 42 [.ptr a.f a.s 0] H fun v H' => v = .ptr H.length 3 0 ∧ H.length + 1 < H'.length ∧ LineIn H' ⟨H.length, 3, H.length + 1, 7, a.kf, a.ks⟩ L ∧ Ch H H' [] := by
  refine cr_of Try.func42 rfl ?_
  intro n K hn F
  have A := F.at_ hn hL.cells
  have B := F.at_ hn hL.names
  have l16 : l.length = 16 := by rw [hL.obs.len]; exact ok.n16
  have zl : ∀ z, zeroCells Try.prog 67 = some z → z.length = 53 := by
    intro z hz
    rw [zc67] at hz
    cases hz; rfl
  obtain ⟨z, hz⟩ : ∃ z, zeroCells Try.prog 67 = some z := ⟨_, zc67⟩
  simp only [walk, walkL, evOp, quietOp, farOp, nov, gd, rho, putT, wr, Nat.reduceAdd, Nat.reduceSub, Bool.false_eq_true, if_true, if_false, reduceIte, reduceCtorEq, walkM, Int.reduceBEq, Int.reduceBNe, Int.reduceLT, Int.reduceLE, decide_true, decide_false, eq_self, Bool.not_true, Bool.not_false, ↓ev_fa, ↓ev_field, ↓ev_load, ↓ev_store, stO_cells, List.all_cons, List.all_nil, Bool.and_self, Bool.and_true, Try.ntmps42, hz, sz67, new, hget_hset', hset_length, and_false, false_and, and_true, true_and, and_self, Nat.reduceEqDiff, Nat.reduceLT, Nat.lt_irrefl, Nat.not_lt_zero, zerosN, fillV, walkB, pureL, V.pure, Nat.reduceMul, Nat.reduceLeDiff, Nat.one_ne_zero, List.take_zero, List.drop_succ_cons, List.drop_zero, List.take_succ_cons, List.replicate_one, List.drop_nil, List.take_nil, Nat.le_refl, Nat.zero_add, Nat.zero_mul, Nat.one_mul, Nat.mul_one, A.get, A.ltK, B.get, B.ltK, lc_0, lc_1, lc_2, lc_3, lc_4, Nat.add_zero, callC, F.own, F.lt, A.ne, ra_line l16, lc_cells hL.obs, st_line l16 (zl z hz)]
  simp only [walk, walkL, evOp, quietOp, farOp, nov, gd, rho, putT, wr, Nat.reduceAdd, Nat.reduceSub, Bool.false_eq_true, if_true, if_false, reduceIte, reduceCtorEq, walkM, Int.reduceBEq, Int.reduceBNe, Int.reduceLT, Int.reduceLE, decide_true, decide_false, eq_self, Bool.not_true, Bool.not_false, ↓ev_fa, ↓ev_field, ↓ev_load, ↓ev_store, stO_cells, List.all_cons, List.all_nil, Bool.and_self, Bool.and_true, ta42, new, hget_hset', hset_length, and_false, false_and, and_true, true_and, and_self, Nat.reduceEqDiff, Nat.reduceLT, Nat.lt_irrefl, Nat.not_lt_zero, zerosN, fillV, walkB, pureL, V.pure, Nat.reduceMul, Nat.reduceLeDiff, Nat.one_ne_zero, List.take_zero, List.drop_succ_cons, List.drop_zero, List.take_succ_cons, List.replicate_one, List.drop_nil, List.take_nil, Nat.le_refl, Nat.zero_add, Nat.zero_mul, Nat.one_mul, Nat.mul_one, A.get, A.ltK, B.get, B.ltK, lc_0, lc_1, lc_2, lc_3, lc_4, Nat.add_zero, callC, F.lt, A.ne]
  refine W.call (mclone_cr _ a.nf a.ns _ _ _ (by simp only [hget_hset', hset_length, F.lt, B.ne, false_and, if_false]; exact B.get)) rfl rfl rfl rfl rfl ?_
  rintro _ J ⟨rfl, g7, cj⟩
  generalize hq : List.length _ = q at g7
  have hq1 : q = n + 1 := by rw [← hq]; simp only [hset_length]; exact F.len
  have lj : n < J.length := cj.lt (by simp only [hset_length]; exact F.lt)
  have lq : q < J.length := hget_lt g7
  have lowj : ∀ f s, f < n → hget J f s = hget H f s := fun f s h => by
    rw [cj.get f s (by simp only [hset_length]; have := F.lt; omega)]
    simp only [hget_hset', hset_length, F.lt, Nat.ne_of_lt h, false_and, if_false, lk]; exact F.low f s h
  have j3 : hget J n 3 = some (.cells (lineC a L.snap L.owner L.prev l)) := (cj.own (by simp only [hset_length]; exact F.lt) (by simp)).trans (hget_same (by simp only [hset_length]; exact F.lt))
  have aj : hget J a.f a.s = _ := (lowj _ _ A.lt).trans hL.cells
  clear cj
  simp only [walk, walkL, evOp, quietOp, farOp, nov, gd, rho, putT, wr, Nat.reduceAdd, Nat.reduceSub, Bool.false_eq_true, if_true, if_false, reduceIte, reduceCtorEq, walkM, Int.reduceBEq, Int.reduceBNe, Int.reduceLT, Int.reduceLE, decide_true, decide_false, eq_self, Bool.not_true, Bool.not_false, ↓ev_fa, ↓ev_field, ↓ev_load, ↓ev_store, stO_cells, List.all_cons, List.all_nil, Bool.and_self, Bool.and_true, hq, ta42, new, hget_hset', hset_length, and_false, false_and, and_true, true_and, and_self, Nat.reduceEqDiff, Nat.reduceLT, Nat.lt_irrefl, Nat.not_lt_zero, zerosN, fillV, walkB, pureL, V.pure, Nat.reduceMul, Nat.reduceLeDiff, Nat.one_ne_zero, List.take_zero, List.drop_succ_cons, List.drop_zero, List.take_succ_cons, List.replicate_one, List.drop_nil, List.take_nil, Nat.le_refl, Nat.zero_add, Nat.zero_mul, Nat.one_mul, Nat.mul_one, lj, j3, st_names (a := a) (sn := L.snap) (ow := L.owner) (pr := L.prev) (l := l) (f := n) (s := 3) (nf := q) (ns := 7)]
  refine W.ul ?_
  refine W.loop (fun (i : Nat) t H1 => maskT [0, 3, 14] t 0 = st42_4 (.ptr a.f a.s 0) (.ptr n 3 0) (.int .i64 i) ∧ i ≤ 16 ∧ H1.length = J.length ∧ (∀ f s, ¬ (f = n ∧ s = 3) → hget H1 f s = hget J f s) ∧
    ∃ l1, ObsAt l1 L.objs ∧ hget H1 n 3 = some (.cells (lineC { a with nf := q, ns := 7 } L.snap L.owner L.prev l1))) (fun i => 16 - i) ?_ 0 ⟨rfl, by omega, by simp only [hset_length], fun f s h => by rw [hget_ne lj h], l, hL.obs, hget_same lj⟩ rfl
  rintro i t H1 ⟨ht, hi, hlen, hoth, l1, ho1, h3⟩
  have l116 : l1.length = 16 := by rw [ho1.len]; exact ok.n16
  refine ⟨_, _, forget_keep (kt := [0, 3, 14]) rfl, ?_⟩
  rw [ht]
  have n1 : n < H1.length := by omega
  have a1 : hget H1 a.f a.s = _ := (hoth a.f a.s (fun e => A.ne e.1)).trans aj
  simp only [st42_4]
  by_cases h : i < 16
  · have c1 : decide ((i : Int) < 16) = true := decide_eq_true (by omega)
    have w1 : (IntKind.i64).wrap ((i : Int) + 1) = ((i + 1 : Nat) : Int) := by rw [wrap_i64] <;> omega
    obtain ⟨o, ho, hk, hlk, hd⟩ := hL.obs.at_ (ok.at_ (i := (i : Int)) (by omega) (by omega))
    have hi1 : i < l1.length := by omega
    have ho2 : l1[(i : Int).toNat]? = some l1[i] := List.getElem?_eq_getElem hi1
    have hmi := ok.at_ (i := (i : Int)) (by omega) (by omega)
    simp only [walk, walkL, evOp, quietOp, farOp, nov, gd, rho, putT, wr, Nat.reduceAdd, Nat.reduceSub, Bool.false_eq_true, if_true, if_false, reduceIte, reduceCtorEq, walkM, Int.reduceBEq, Int.reduceBNe, Int.reduceLT, Int.reduceLE, decide_true, decide_false, eq_self, Bool.not_true, Bool.not_false, ↓ev_fa, ↓ev_field, ↓ev_load, ↓ev_store, stO_cells, List.all_cons, List.all_nil, Bool.and_self, Bool.and_true, c1, ta42, new, hget_hset', hset_length, and_false, false_and, and_true, true_and, and_self, Nat.reduceEqDiff, Nat.reduceLT, Nat.lt_irrefl, Nat.not_lt_zero, zerosN, fillV, walkB, pureL, V.pure, Nat.reduceMul, Nat.reduceLeDiff, Nat.one_ne_zero, List.take_zero, List.drop_succ_cons, List.drop_zero, List.take_succ_cons, List.replicate_one, List.drop_nil, List.take_nil, Nat.le_refl, Nat.zero_add, Nat.zero_mul, Nat.one_mul, Nat.mul_one, A.get, A.ltK, B.get, B.ltK, lc_0, lc_1, lc_2, lc_3, lc_4, Nat.add_zero, callC, n1, a1, A.ne, ia_ob (show (0 : Int) ≤ (i : Int) by omega) (show (i : Int) < 16 by omega), lc_data ho]
    refine W.lcall (clone_fn o.data _ hd (by have := ok.dat i; omega)) rfl rfl rfl rfl (frzL_cons (hd.frz _) rfl) ?_
    intro r hr
    have cr := IsSl.cells hr
    simp only [walk, walkL, evOp, quietOp, farOp, nov, gd, rho, putT, wr, Nat.reduceAdd, Nat.reduceSub, Bool.false_eq_true, if_true, if_false, reduceIte, reduceCtorEq, walkM, Int.reduceBEq, Int.reduceBNe, Int.reduceLT, Int.reduceLE, decide_true, decide_false, eq_self, Bool.not_true, Bool.not_false, ↓ev_fa, ↓ev_field, ↓ev_load, ↓ev_store, stO_cells, List.all_cons, List.all_nil, Bool.and_self, Bool.and_true, ta42, new, hget_hset', hset_length, and_false, false_and, and_true, true_and, and_self, Nat.reduceEqDiff, Nat.reduceLT, Nat.lt_irrefl, Nat.not_lt_zero, zerosN, fillV, walkB, pureL, V.pure, Nat.reduceMul, Nat.reduceLeDiff, Nat.one_ne_zero, List.take_zero, List.drop_succ_cons, List.drop_zero, List.take_succ_cons, List.replicate_one, List.drop_nil, List.take_nil, Nat.le_refl, Nat.zero_add, Nat.zero_mul, Nat.one_mul, Nat.mul_one, A.get, A.ltK, B.get, B.ltK, lc_0, lc_1, lc_2, lc_3, lc_4, Nat.add_zero, callC, n1, h3, ia_ob (show (0 : Int) ≤ (i : Int) by omega) (show (i : Int) < 16 by omega), cr, st_data ho2, w1]
    refine W.done ⟨i + 1, ⟨rfl, by omega, by simp only [hset_length]; exact hlen, fun f s h => by rw [hget_ne n1 h, hoth f s h], l1.set i { l1[i] with data := r }, ?_, hget_same n1⟩, by omega⟩
    have hh := ho1.get i _ _ ho2 hmi
    have hset := ho1.set i (o := { l1[i] with data := r }) (p := L.ob i) ⟨hh.1, hh.2.1, hr⟩
    have e : L.objs.set i (L.ob i) = L.objs := by
      obtain ⟨hl, he⟩ := List.getElem?_eq_some_iff.1 hmi
      rw [← he]; exact List.set_getElem_self hl
    rwa [e] at hset
  · have c1 : decide ((i : Int) < 16) = false := decide_eq_false (by omega)
    simp only [walk, walkL, evOp, quietOp, farOp, nov, gd, rho, putT, wr, Nat.reduceAdd, Nat.reduceSub, Bool.false_eq_true, if_true, if_false, reduceIte, reduceCtorEq, walkM, Int.reduceBEq, Int.reduceBNe, Int.reduceLT, Int.reduceLE, decide_true, decide_false, eq_self, Bool.not_true, Bool.not_false, ↓ev_fa, ↓ev_field, ↓ev_load, ↓ev_store, stO_cells, List.all_cons, List.all_nil, Bool.and_self, Bool.and_true, c1]
    refine W.done ?_
    simp only [walk, walkL, evOp, quietOp, farOp, nov, gd, rho, putT, wr, Nat.reduceAdd, Nat.reduceSub, Bool.false_eq_true, if_true, if_false, reduceIte, reduceCtorEq, walkM, Int.reduceBEq, Int.reduceBNe, Int.reduceLT, Int.reduceLE, decide_true, decide_false, eq_self, Bool.not_true, Bool.not_false, ↓ev_fa, ↓ev_field, ↓ev_load, ↓ev_store, stO_cells, List.all_cons, List.all_nil, Bool.and_self, Bool.and_true]
    refine W.done (EndK.ret rfl ?_)
    rw [popF_keep (by simp only [List.getD_cons_succ, List.getD_cons_zero, V.refs]; simp)]
    have hJ : q < H1.length := by omega
    refine ⟨by rw [← hn]; rfl, by omega, ⟨l1, bs, clk, ho1, ?_, ?_, hL.born⟩, by omega, fun f s hf => ?_⟩
    · rw [← hn, ← hq1, lc_at (f := n) (s := 3) (f' := a.f) (s' := a.s)]; exact h3
    · rw [← hn, ← hq1, hoth q 7 (fun e => by omega)]; exact g7
    · rw [hoth f s (fun e => by omega), lowj f s (by omega)]; rfl
end Go.Proofs.Ytebbgmeomkjibaa
end
section
/- model: a line is put in. -/
set_option maxRecDepth 100000
namespace Go.Proofs.Ytebbgmeomkjibaa
open Go.AM

attribute [local irreducible] U W

theorem put_cr (H : Heap) (f s nf ns : Nat) (last : Int) (es : List (V × V)) (bs : List Nat) (clk : Nat) (lp : V) (hh : hget H f s = some (.cells [.int .i64 last, .map nf ns])) (hm : hget H nf ns = some (.map es bs clk))
    (h0 : 0 ≤ last) (h1 : last ≤ 1000000) (hk : findKey (.int .i64 (last + 1)) es 0 = some none) :
    CR Try.prog pol 41 [.ptr f s 0, lp] H fun v H' => v = .int .i64 (last + 1) ∧ Ch H H' [(nf, ns, .map (es ++ [(.int .i64 (last + 1), lp)]) (bs ++ [clk]) (clk + 1)), (f, s, .cells [.int .i64 (last + 1), .map nf ns])] := by
  refine cr_of Try.func41 rfl ?_
  intro n K hn F
  have hf := hget_lt hh
  have hnf := hget_lt hm
  have hf' : f < n := by omega
  have hnf' : nf < n := by omega
  have kf : f < K.length := by have := F.len; omega
  have knf : nf < K.length := by have := F.len; omega
  have gh := (F.low f s hf').trans hh
  have gm := (F.low nf ns hnf').trans hm
  have ne1 := map_cells_ne hh hm
  have ne2 := map_cells_ne' hh hm
  have w1 : (IntKind.i64).wrap (last + 1) = last + 1 := by rw [wrap_i64] <;> omega
  have up : ∀ g : Get, g nf ns = some (.map es bs clk) → updateV Try.prog g 44 (.map nf ns) (.int .i64 (last + 1)) lp = _ := fun g hg => update_new Try.underlying44 Try.underlying3 hg rfl hk
  simp only [walk, walkL, evOp, quietOp, farOp, nov, gd, rho, putT, wr, Nat.reduceAdd, Nat.reduceSub, Bool.false_eq_true, if_true, if_false, reduceIte, reduceCtorEq, walkM, Int.reduceBEq, Int.reduceBNe, Int.reduceLT, Int.reduceLE, decide_true, decide_false, eq_self, Bool.not_true, Bool.not_false, ↓ev_fa, ↓ev_field, ↓ev_load, ↓ev_store, stO_cells, List.all_cons, List.all_nil, Bool.and_self, Bool.and_true, Try.ntmps41, ta41, new, hget_hset', hset_length, and_false, false_and, and_true, true_and, and_self, Nat.reduceEqDiff, Nat.reduceLT, Nat.lt_irrefl, Nat.not_lt_zero, zerosN, fillV, walkB, pureL, V.pure, Nat.reduceMul, Nat.reduceLeDiff, Nat.one_ne_zero, List.take_zero, List.drop_succ_cons, List.drop_zero, List.take_succ_cons, List.replicate_one, List.drop_nil, List.take_nil, Nat.le_refl, Nat.zero_add, Nat.zero_mul, Nat.one_mul, Nat.mul_one, splice, gh, gm, kf, knf, ne1, ne2, w1, up]
  refine W.opsK (by kernel_rfl) ?_
  simp only [walk, walkL, evOp, quietOp, farOp, nov, gd, rho, putT, wr, Nat.reduceAdd, Nat.reduceSub, Bool.false_eq_true, if_true, if_false, reduceIte, reduceCtorEq, walkM, Int.reduceBEq, Int.reduceBNe, Int.reduceLT, Int.reduceLE, decide_true, decide_false, eq_self, Bool.not_true, Bool.not_false, ↓ev_fa, ↓ev_field, ↓ev_load, ↓ev_store, stO_cells, List.all_cons, List.all_nil, Bool.and_self, Bool.and_true, ta41, new, hget_hset', hset_length, and_false, false_and, and_true, true_and, and_self, Nat.reduceEqDiff, Nat.reduceLT, Nat.lt_irrefl, Nat.not_lt_zero, zerosN, fillV, walkB, pureL, V.pure, Nat.reduceMul, Nat.reduceLeDiff, Nat.one_ne_zero, List.take_zero, List.drop_succ_cons, List.drop_zero, List.take_succ_cons, List.replicate_one, List.drop_nil, List.take_nil, Nat.le_refl, Nat.zero_add, Nat.zero_mul, Nat.one_mul, Nat.mul_one, splice, gh, gm, kf, knf, ne1, ne2, w1, up]
  exact W.done (EndK.ret rfl ⟨rfl, (F.ch hn (by first | rfl | simp only [hset_length]) (fun f' s' h => by first | rfl | simp only [hget_hset', hset_length, F.lt, Nat.ne_of_lt h, false_and, if_false, AM.lk, *, -hn]))⟩)
end Go.Proofs.Ytebbgmeomkjibaa
end
