/- This file holds in one the texts ZO40; each says at its head what it proves. -/
import Derived.Test.YtebbgmeomkjibaaGreatI49
import Derived.Test.YtebbgmeomkjibaaGreatI51
set_option linter.unusedSimpArgs false
set_option linter.unusedVariables false
section
/- model: ModelIdle; asks, idle. -/
set_option maxRecDepth 100000
namespace Go.Proofs.YtebbgmeomkjibaaGreat
open Go.AM Go.Mod

attribute [local irreducible] U W

theorem idle_fz (c : MCall) (dv : V) (rc : List V) (r : MReply) (hd : IsBytes dv c.data) (hr : RepV (.agg rc) r) : Fz Tryz.prog pol 10 [.agg (callC c dv), .agg rc] fun x => x = .bool (idleB c r) := by
  obtain ⟨d1, nv, lv, e1, h1, h2, h3⟩ := hr
  injection e1 with e1
  subst e1
  refine fz_of Tryz.func10 rfl ?_
  have s0 := IsSl.scalar hd
  have s1 := IsSl.scalar h1
  have s2 := IsSl.scalar h2
  have s3 := IsSl.scalar h3
  by_cases q0 : r.err = 0
  case neg =>
    have b0 : (r.err != 0) = true := by simpa using q0
    have e : idleB c r = true := by simp [idleB, q0]
    rw [e]
    simp only [walk, walkL, evOp, quietOp, farOp, nov, gd, rho, putT, wr, Nat.reduceAdd, Nat.reduceSub, Bool.false_eq_true, if_true, if_false, reduceIte, reduceCtorEq, walkM, Int.reduceBEq, Int.reduceBNe, Int.reduceLT, Int.reduceLE, decide_true, decide_false, eq_self, Bool.not_true, Bool.not_false, ↓ev_fa, ↓ev_field, ↓ev_load, ↓ev_store, stO_cells, List.all_cons, List.all_nil, Bool.and_self, Bool.and_true, Tryz.ntmps10, ta10, new, hget, hset, fget, fset, List.modify_zero_cons, List.modify_succ_cons, List.modify_cons, Nat.reduceLT, Nat.reduceEqDiff, Nat.lt_irrefl, Nat.not_lt_zero, Nat.lt_add_one, splice, zerosN, fillV, walkB, pureL, V.pure, Nat.reduceMul, Nat.reduceLeDiff, Nat.one_ne_zero, and_self, and_true, true_and, List.take_zero, List.drop_succ_cons, List.drop_zero, List.take_succ_cons, List.replicate_one, List.drop_nil, List.take_nil, Nat.le_refl, Nat.zero_add, Nat.zero_mul, Nat.one_mul, Nat.mul_one, callC, s0, s1, s2, s3, b0]
    exact W.done (EndZ.ret rfl rfl rfl)
  have b0 : (r.err != 0) = false := by simpa using q0
  by_cases q1 : c.kind = 14
  · have b1 : (c.kind == 14) = true := by simpa using q1
    have e : idleB c r = true := by simp [idleB, q1]
    rw [e]
    simp only [walk, walkL, evOp, quietOp, farOp, nov, gd, rho, putT, wr, Nat.reduceAdd, Nat.reduceSub, Bool.false_eq_true, if_true, if_false, reduceIte, reduceCtorEq, walkM, Int.reduceBEq, Int.reduceBNe, Int.reduceLT, Int.reduceLE, decide_true, decide_false, eq_self, Bool.not_true, Bool.not_false, ↓ev_fa, ↓ev_field, ↓ev_load, ↓ev_store, stO_cells, List.all_cons, List.all_nil, Bool.and_self, Bool.and_true, Tryz.ntmps10, ta10, new, hget, hset, fget, fset, List.modify_zero_cons, List.modify_succ_cons, List.modify_cons, Nat.reduceLT, Nat.reduceEqDiff, Nat.lt_irrefl, Nat.not_lt_zero, Nat.lt_add_one, splice, zerosN, fillV, walkB, pureL, V.pure, Nat.reduceMul, Nat.reduceLeDiff, Nat.one_ne_zero, and_self, and_true, true_and, List.take_zero, List.drop_succ_cons, List.drop_zero, List.take_succ_cons, List.replicate_one, List.drop_nil, List.take_nil, Nat.le_refl, Nat.zero_add, Nat.zero_mul, Nat.one_mul, Nat.mul_one, callC, s0, s1, s2, s3, b0, b1]
    exact W.done (EndZ.ret rfl rfl rfl)
  have b1 : (c.kind == 14) = false := by simpa using q1
  by_cases q2 : c.kind = 17
  · have b2 : (c.kind == 17) = true := by simpa using q2
    have e : idleB c r = true := by simp [idleB, q2]
    rw [e]
    simp only [walk, walkL, evOp, quietOp, farOp, nov, gd, rho, putT, wr, Nat.reduceAdd, Nat.reduceSub, Bool.false_eq_true, if_true, if_false, reduceIte, reduceCtorEq, walkM, Int.reduceBEq, Int.reduceBNe, Int.reduceLT, Int.reduceLE, decide_true, decide_false, eq_self, Bool.not_true, Bool.not_false, ↓ev_fa, ↓ev_field, ↓ev_load, ↓ev_store, stO_cells, List.all_cons, List.all_nil, Bool.and_self, Bool.and_true, Tryz.ntmps10, ta10, new, hget, hset, fget, fset, List.modify_zero_cons, List.modify_succ_cons, List.modify_cons, Nat.reduceLT, Nat.reduceEqDiff, Nat.lt_irrefl, Nat.not_lt_zero, Nat.lt_add_one, splice, zerosN, fillV, walkB, pureL, V.pure, Nat.reduceMul, Nat.reduceLeDiff, Nat.one_ne_zero, and_self, and_true, true_and, List.take_zero, List.drop_succ_cons, List.drop_zero, List.take_succ_cons, List.replicate_one, List.drop_nil, List.take_nil, Nat.le_refl, Nat.zero_add, Nat.zero_mul, Nat.one_mul, Nat.mul_one, callC, s0, s1, s2, s3, b0, b1, b2]
    exact W.done (EndZ.ret rfl rfl rfl)
  have b2 : (c.kind == 17) = false := by simpa using q2
  have b3 : decide (c.kind ≥ 18) = idleB c r := by simp [idleB, q0, q1, q2]
  simp only [walk, walkL, evOp, quietOp, farOp, nov, gd, rho, putT, wr, Nat.reduceAdd, Nat.reduceSub, Bool.false_eq_true, if_true, if_false, reduceIte, reduceCtorEq, walkM, Int.reduceBEq, Int.reduceBNe, Int.reduceLT, Int.reduceLE, decide_true, decide_false, eq_self, Bool.not_true, Bool.not_false, ↓ev_fa, ↓ev_field, ↓ev_load, ↓ev_store, stO_cells, List.all_cons, List.all_nil, Bool.and_self, Bool.and_true, Tryz.ntmps10, ta10, new, hget, hset, fget, fset, List.modify_zero_cons, List.modify_succ_cons, List.modify_cons, Nat.reduceLT, Nat.reduceEqDiff, Nat.lt_irrefl, Nat.not_lt_zero, Nat.lt_add_one, splice, zerosN, fillV, walkB, pureL, V.pure, Nat.reduceMul, Nat.reduceLeDiff, Nat.one_ne_zero, and_self, and_true, true_and, List.take_zero, List.drop_succ_cons, List.drop_zero, List.take_succ_cons, List.replicate_one, List.drop_nil, List.take_nil, Nat.le_refl, Nat.zero_add, Nat.zero_mul, Nat.one_mul, Nat.mul_one, callC, s0, s1, s2, s3, b0, b1, b2, b3]
  exact W.done (EndZ.ret rfl rfl rfl)

/-- A list of one's own, made in a slot, that a list is appended to; of calls, of replies. -/
theorem app_firstR {H : Heap} {x : V} {ds : List V} {m d fr : Nat} {mt : Nat → Bool} (hsc : ∀ g, sliceCells g 10 x = some (ds, m)) (hl : ds.length = m * 10) (h0 : 0 < m) (hp : pureL ds = true) (hd : hget H fr d = none) (hfr : fr < H.length) (hm : mt d = false) (hn : m ≤ 1000) :
    ∃ w, appendV Tryz.prog mt fr (hget H) (some d) 25 25 .nilslice x = some (.val (.gslice fr d ds m 10) w) ∧ hget (wr H w) fr d = some (.grow m) ∧ (wr H w).length = H.length ∧ (∀ f e, (f ≠ fr ∨ e ≠ d) → hget (wr H w) f e = hget H f e) := by
  obtain ⟨m, rfl⟩ : ∃ k, m = k + 1 := ⟨m - 1, by omega⟩
  refine ⟨some (fr, d, .grow (m + 1)), ?_, ?_, by simp [wr, hset_length], fun f e he => ?_⟩
  · rw [app_nil Tryz.underlying25 sz38 by_reply zc38 rfl Tryz.underlying25 (hsc _) (by omega) (roomy_of (by omega) (by omega)), grown_im hm hp hd]
  · simp only [wr]; rw [hget_same hfr]
  · simp only [wr]; rw [hget_ne hfr]; rintro ⟨rfl, rfl⟩; rcases he with h | h <;> exact h rfl
theorem app_onR {H : Heap} {f sl : Nat} {x : V} {cs ds : List V} {n m fr : Nat} {dst : Option Nat} {mt : Nat → Bool} (hg : hget H f sl = some (.grow n)) (hc : cs.length = n * 10) (hx : IsSl 10 x ds m) (h0 : 0 < m) (hp : pureL ds = true) (hs : ds.all V.scalar = true) (hn : n + m ≤ 1000) :
    ∃ w, appendV Tryz.prog mt fr (hget H) dst 25 25 (.gslice f sl cs n 10) x = some (.val (.gslice f sl (cs ++ ds) (n + m) 10) w) ∧ hget (wr H w) f sl = some (.grow (n + m)) ∧ (wr H w).length = H.length ∧ (∀ a e, (a ≠ f ∨ e ≠ sl) → hget (wr H w) a e = hget H a e) := by
  obtain ⟨m, rfl⟩ : ∃ k, m = k + 1 := ⟨m - 1, by omega⟩
  have hf := hget_lt hg
  have hl : (cs ++ ds).length = (n + (m + 1)) * 10 := by rw [List.length_append, hc, hx.1]; omega
  refine ⟨some (f, sl, .grow (n + (m + 1))), ?_, ?_, by simp [wr, hset_length], fun a e he => ?_⟩
  · exact app_more Tryz.underlying25 sz38 by_reply zc38 rfl Tryz.underlying25 (IsSl.sc hx) (by omega) (roomy_of (by omega) (by omega)) hp hs hg
  · simp only [wr]; exact hget_same hf
  · simp only [wr]; rw [hget_ne hf]; rintro ⟨rfl, rfl⟩; rcases he with h | h <;> exact h rfl

theorem busy_step {l : List MCall} {rs : List MReply} (hl : rs.length = l.length) {i : Nat} (h : i < l.length) :
    busyOf (l.take (i + 1)) (rs.take (i + 1)) = busyOf (l.take i) (rs.take i) ++ (if idleB l[i] (rs[i]'(by omega)) then [] else [(l[i], rs[i]'(by omega))]) := by
  have h2 : i < rs.length := by omega
  unfold busyOf
  rw [List.take_add_one, List.take_add_one, List.getElem?_eq_getElem h, List.getElem?_eq_getElem h2, Option.toList_some, Option.toList_some, List.zip_append (by simp; omega), List.filter_append]
  congr 1
  cases q : idleB l[i] rs[i] <;> simp [q]
theorem busy_len (l : List MCall) (rs : List MReply) : (busyOf l rs).length ≤ l.length := by
  unfold busyOf
  refine Nat.le_trans (List.length_filter_le _ _) ?_
  rw [List.length_zip]
  omega
theorem CallsC.pure : ∀ {l : List MCall} {cs : List V}, CallsC cs l → pureL cs = true ∧ cs.all V.scalar = true
  | [], cs, h => by
    have : cs = [] := h
    subst this; exact ⟨rfl, rfl⟩
  | x :: l, cs, h => by
    obtain ⟨dv, d, rfl, h1, h2⟩ := h
    have := h2.pure
    have p1 := IsSl.pure h1.data
    have p2 := IsSl.scalar h1.data
    refine ⟨pl_app (by simp only [callC, pureL, V.pure, p1, Bool.and_self]) this.1, ?_⟩
    rw [List.all_append, this.2, Bool.and_true]
    simp only [callC, List.all_cons, p2]; rfl
/-- What the loop has: nothing, or two lists of its own. -/
def Two (H : Heap) (sv tv : V) (c1 c2 : List V) (k : Nat) : Prop :=
  H.length = 1 ∧ ((k = 0 ∧ sv = .nilslice ∧ tv = .nilslice ∧ c1 = [] ∧ c2 = [] ∧ hget H 0 51 = none ∧ hget H 0 58 = none) ∨
  (0 < k ∧ sv = .gslice 0 51 c1 k 8 ∧ tv = .gslice 0 58 c2 k 10 ∧ hget H 0 51 = some (.grow k) ∧ hget H 0 58 = some (.grow k) ∧ c1.length = k * 8 ∧ c2.length = k * 10))
theorem Two.add {H : Heap} {sv tv : V} {c1 c2 : List V} {k : Nat} (h : Two H sv tv c1 c2 k) {x y : V} {d1 d2 : List V} (hx : IsSl 8 x d1 1) (hy : IsSl 10 y d2 1) (p1 : pureL d1 = true) (p2 : pureL d2 = true) (s1 : d1.all V.scalar = true) (s2 : d2.all V.scalar = true) (hk : k ≤ 900) (mt : Nat → Bool) (m1 : mt 51 = false) (m2 : mt 58 = false) :
    ∃ sv' tv' w1 w2, appendV Tryz.prog mt 0 (hget H) (some 51) 22 22 sv x = some (.val sv' w1) ∧ appendV Tryz.prog mt 0 (hget (wr H w1)) (some 58) 25 25 tv y = some (.val tv' w2) ∧ Two (wr (wr H w1) w2) sv' tv' (c1 ++ d1) (c2 ++ d2) (k + 1) := by
  obtain ⟨hl, ⟨rfl, rfl, rfl, rfl, rfl, h1, h2⟩ | ⟨h0, rfl, rfl, h1, h2, l1, l2⟩⟩ := h
  · obtain ⟨s', w, a1, a2, rfl, a4, a5⟩ := app_first (H := H) (x := x) (ds := d1) (m := 1) (d := 51) (fr := 0) (mt := mt) (fun g => IsSl.sc hx) hx.1 (by omega) p1 h1 (by omega) m1 (by omega)
    have a2' : hget (wr H w) 0 51 = some (.grow 1) := by
      rcases a2 with ⟨h, _⟩ | ⟨f, sl, h, h3, _⟩
      · cases h
      · cases h; exact h3
    obtain ⟨w2, b1, b2, b3, b4⟩ := app_firstR (H := wr H w) (x := y) (ds := d2) (m := 1) (d := 58) (fr := 0) (mt := mt) (fun g => IsSl.sc hy) hy.1 (by omega) p2 (by rw [a5 0 58 (.inr (by decide))]; exact h2) (by omega) m2 (by omega)
    refine ⟨_, _, w, w2, a1, b1, by omega, .inr ⟨by omega, by simp, by simp, ?_, b2, by simpa using hx.1, by simpa using hy.1⟩⟩
    rw [b4 0 51 (.inr (by decide))]; exact a2'
  · obtain ⟨w, a1, _, a3, a4, a5⟩ := app_on (x := x) (fr := 0) (dst := some 51) (mt := mt) h1 l1 hx (by omega) p1 s1 (by omega)
    obtain ⟨w2, b1, b2, b3, b4⟩ := app_onR (H := wr H w) (x := y) (fr := 0) (dst := some 58) (mt := mt) (by rw [a5 0 58 (.inr (by decide))]; exact h2) l2 hy (by omega) p2 s2 (by omega)
    refine ⟨_, _, w, w2, a1, b1, by omega, .inr ⟨by omega, rfl, rfl, ?_, b2, by rw [List.length_append, l1, hx.1]; omega, by rw [List.length_append, l2, hy.1]; omega⟩⟩
    rw [b4 0 51 (.inr (by decide))]; exact a3
theorem Two.grs {H : Heap} {sv tv : V} {c1 c2 : List V} {k : Nat} (h : Two H sv tv c1 c2 k) : Gr H sv c1 k 8 ∧ Gr H tv c2 k 10 := by
  obtain ⟨hl, ⟨rfl, rfl, rfl, rfl, rfl, h1, h2⟩ | ⟨h0, rfl, rfl, h1, h2, l1, l2⟩⟩ := h
  · exact ⟨.inl ⟨rfl, rfl, rfl⟩, .inl ⟨rfl, rfl, rfl⟩⟩
  · exact ⟨.inr ⟨_, _, rfl, h1, l1⟩, .inr ⟨_, _, rfl, h2, l2⟩⟩
theorem RepsC.addC {a b : List MReply} {cs ds : List V} (h : RepsC cs a) (g : RepsC ds b) : RepsC (cs ++ ds) (a ++ b) := by
  induction a generalizing cs with
  | nil =>
    have : cs = [] := h
    subst this; exact g
  | cons x a ih =>
    obtain ⟨c, d, rfl, h1, h2, h3⟩ := h
    exact ⟨c, d ++ ds, by simp, h1, h2, ih h3⟩

theorem idle_law (v : V) (cs : List V) (l : List MCall) (hv : IsSl 8 v cs l.length) (hc : CallsR cs l) : Fz Tryz.prog pol 3 [v] fun r => r = .bool true := by
  refine fz_of Tryz.func3 rfl ?_
  have lv := hv.len Tryz.underlying22
  simp only [walk, walkL, evOp, quietOp, farOp, nov, gd, rho, putT, wr, Nat.reduceAdd, Nat.reduceSub, Bool.false_eq_true, if_true, if_false, reduceIte, reduceCtorEq, walkM, Int.reduceBEq, Int.reduceBNe, Int.reduceLT, Int.reduceLE, decide_true, decide_false, eq_self, Bool.not_true, Bool.not_false, ↓ev_fa, ↓ev_field, ↓ev_load, ↓ev_store, stO_cells, List.all_cons, List.all_nil, Bool.and_self, Bool.and_true, Tryz.ntmps3]
  refine W.pcall alive_fz rfl rfl rfl ?_
  rintro _ rfl
  simp only [walk, walkL, evOp, quietOp, farOp, nov, gd, rho, putT, wr, Nat.reduceAdd, Nat.reduceSub, Bool.false_eq_true, if_true, if_false, reduceIte, reduceCtorEq, walkM, Int.reduceBEq, Int.reduceBNe, Int.reduceLT, Int.reduceLE, decide_true, decide_false, eq_self, Bool.not_true, Bool.not_false, ↓ev_fa, ↓ev_field, ↓ev_load, ↓ev_store, stO_cells, List.all_cons, List.all_nil, Bool.and_self, Bool.and_true]
  refine W.pcall (great_fz v cs l hv hc 40 (by decide)) rfl rfl (frzL_cons (hv.frz _) rfl) ?_
  rintro _ rfl
  cases g1 : greatB l 40 with
  | true =>
    simp only [walk, walkL, evOp, quietOp, farOp, nov, gd, rho, putT, wr, Nat.reduceAdd, Nat.reduceSub, Bool.false_eq_true, if_true, if_false, reduceIte, reduceCtorEq, walkM, Int.reduceBEq, Int.reduceBNe, Int.reduceLT, Int.reduceLE, decide_true, decide_false, eq_self, Bool.not_true, Bool.not_false, ↓ev_fa, ↓ev_field, ↓ev_load, ↓ev_store, stO_cells, List.all_cons, List.all_nil, Bool.and_self, Bool.and_true]
    exact W.done (EndZ.ret rfl rfl rfl)
  | false =>
    have n1 := great_no g1
    by_cases h40 : 40 < l.length
    · have d1 : decide ((l.length : Int) > 40) = true := decide_eq_true (by omega)
      simp only [walk, walkL, evOp, quietOp, farOp, nov, gd, rho, putT, wr, Nat.reduceAdd, Nat.reduceSub, Bool.false_eq_true, if_true, if_false, reduceIte, reduceCtorEq, walkM, Int.reduceBEq, Int.reduceBNe, Int.reduceLT, Int.reduceLE, decide_true, decide_false, eq_self, Bool.not_true, Bool.not_false, ↓ev_fa, ↓ev_field, ↓ev_load, ↓ev_store, stO_cells, List.all_cons, List.all_nil, Bool.and_self, Bool.and_true, lv, d1]
      exact W.done (EndZ.ret rfl rfl rfl)
    have d1 : decide ((l.length : Int) > 40) = false := decide_eq_false (by omega)
    have okc : CallsC cs l := hc.ok (by have := n1.2.1; rwa [List.take_of_length_le (by omega)] at this)
    have p1 := play_fz v cs l hv okc
    have nl : ¬ 64 < l.length := by omega
    simp only [nl, if_false] at p1
    have sm := run_small l emptySt 0 emptyOk (by omega)
    have rl := runCalls_len l emptySt
    have ir := idle_run l emptySt
    generalize (runCalls emptySt l).2 = rs at *
    simp only [walk, walkL, evOp, quietOp, farOp, nov, gd, rho, putT, wr, Nat.reduceAdd, Nat.reduceSub, Bool.false_eq_true, if_true, if_false, reduceIte, reduceCtorEq, walkM, Int.reduceBEq, Int.reduceBNe, Int.reduceLT, Int.reduceLE, decide_true, decide_false, eq_self, Bool.not_true, Bool.not_false, ↓ev_fa, ↓ev_field, ↓ev_load, ↓ev_store, stO_cells, List.all_cons, List.all_nil, Bool.and_self, Bool.and_true, lv, d1]
    refine W.pcall p1 rfl rfl (frzL_cons (hv.frz _) rfl) ?_
    rintro _ ⟨av, os, rfl, ha1, ha2⟩
    have la := ha1.len Tryz.underlying25
    simp only [walk, walkL, evOp, quietOp, farOp, nov, gd, rho, putT, wr, Nat.reduceAdd, Nat.reduceSub, Bool.false_eq_true, if_true, if_false, reduceIte, reduceCtorEq, walkM, Int.reduceBEq, Int.reduceBNe, Int.reduceLT, Int.reduceLE, decide_true, decide_false, eq_self, Bool.not_true, Bool.not_false, ↓ev_fa, ↓ev_field, ↓ev_load, ↓ev_store, stO_cells, List.all_cons, List.all_nil, Bool.and_self, Bool.and_true]
    refine W.ul ?_
    refine W.loop (fun (i : Nat) t H => ∃ k sv tv c1 c2, maskT [0, 4, 5, 6, 7, 8] t 0 = st3_8 v av (.int .i64 0) sv tv (.int .i64 i) ∧ i ≤ l.length ∧ Two H sv tv c1 c2 k ∧ k = (busyOf (l.take i) (rs.take i)).length ∧
      CallsC c1 ((busyOf (l.take i) (rs.take i)).map (·.1)) ∧ RepsC c2 ((busyOf (l.take i) (rs.take i)).map (·.2))) (fun i => l.length - i) ?_ 0
      ⟨0, .nilslice, .nilslice, [], [], rfl, by omega, ⟨rfl, .inl ⟨rfl, rfl, rfl, rfl, rfl, rfl, rfl⟩⟩, rfl, rfl, rfl⟩ rfl
    rintro i t H ⟨k, sv, tv, c1, c2, ht, hi, htw, hk, hcc, hrr⟩
    refine ⟨_, _, forget_keep (kt := [0, 4, 5, 6, 7, 8]) rfl, ?_⟩
    rw [ht]
    simp only [st3_8]
    by_cases h : i < l.length
    case neg =>
      have e : i = l.length := by omega
      subst e
      have c1' : decide ((l.length : Int) < rs.length) = false := decide_eq_false (by omega)
      simp only [walk, walkL, evOp, quietOp, farOp, nov, gd, rho, putT, wr, Nat.reduceAdd, Nat.reduceSub, Bool.false_eq_true, if_true, if_false, reduceIte, reduceCtorEq, walkM, Int.reduceBEq, Int.reduceBNe, Int.reduceLT, Int.reduceLE, decide_true, decide_false, eq_self, Bool.not_true, Bool.not_false, ↓ev_fa, ↓ev_field, ↓ev_load, ↓ev_store, stO_cells, List.all_cons, List.all_nil, Bool.and_self, Bool.and_true, la, c1']
      refine W.done ?_
      rw [List.take_length, ← rl, List.take_length] at hk hcc hrr
      have kl := busy_len l rs
      obtain ⟨gr1, gr2⟩ := htw.grs
      obtain ⟨fr1, hf1, hs1⟩ := gr1.frz
      obtain ⟨fr2, hf2, hs2⟩ := gr2.frz
      have p2 := play_fz fr1 c1 _ (by rw [List.length_map, ← hk]; exact hs1) hcc
      have nl2 : ¬ 64 < ((busyOf l rs).map (·.1)).length := by rw [List.length_map]; omega
      simp only [nl2, if_false] at p2
      rw [ir] at p2
      have sm2 : ∀ r ∈ (busyOf l rs).map (·.2), SmallR r := by
        intro r hr
        obtain ⟨p, hp, rfl⟩ := List.mem_map.1 hr
        have hz := (List.mem_filter.1 hp).1
        exact sm _ (List.of_mem_zip hz).2
      simp only [walk, walkL, evOp, quietOp, farOp, nov, gd, rho, putT, wr, Nat.reduceAdd, Nat.reduceSub, Bool.false_eq_true, if_true, if_false, reduceIte, reduceCtorEq, walkM, Int.reduceBEq, Int.reduceBNe, Int.reduceLT, Int.reduceLE, decide_true, decide_false, eq_self, Bool.not_true, Bool.not_false, ↓ev_fa, ↓ev_field, ↓ev_load, ↓ev_store, stO_cells, List.all_cons, List.all_nil, Bool.and_self, Bool.and_true]
      refine W.pcall' p2 rfl rfl (frzL_cons (hf1 _ 11) rfl) ?_
      rintro _ ⟨bv, os2, rfl, hb1, hb2⟩
      simp only [walk, walkL, evOp, quietOp, farOp, nov, gd, rho, putT, wr, Nat.reduceAdd, Nat.reduceSub, Bool.false_eq_true, if_true, if_false, reduceIte, reduceCtorEq, walkM, Int.reduceBEq, Int.reduceBNe, Int.reduceLT, Int.reduceLE, decide_true, decide_false, eq_self, Bool.not_true, Bool.not_false, ↓ev_fa, ↓ev_field, ↓ev_load, ↓ev_store, stO_cells, List.all_cons, List.all_nil, Bool.and_self, Bool.and_true]
      refine W.pcall' (sameAll_fz bv fr2 ((busyOf l rs).map (·.2)) os2 c2 hb1 (by rw [List.length_map, ← hk]; exact hs2) hb2 hrr sm2 (by rw [List.length_map]; omega)) rfl rfl (frzL_cons (hb1.frz _) (frzL_cons (hf2 _ 11) rfl)) ?_
      rintro _ rfl
      simp only [walk, walkL, evOp, quietOp, farOp, nov, gd, rho, putT, wr, Nat.reduceAdd, Nat.reduceSub, Bool.false_eq_true, if_true, if_false, reduceIte, reduceCtorEq, walkM, Int.reduceBEq, Int.reduceBNe, Int.reduceLT, Int.reduceLE, decide_true, decide_false, eq_self, Bool.not_true, Bool.not_false, ↓ev_fa, ↓ev_field, ↓ev_load, ↓ev_store, stO_cells, List.all_cons, List.all_nil, Bool.and_self, Bool.and_true]
      exact W.done (EndZ.ret rfl rfl rfl)
    have h' : i < rs.length := by omega
    have c1' : decide ((i : Int) < rs.length) = true := decide_eq_true (by omega)
    have wi : (IntKind.i64).wrap ((i : Int) + 1) = ((i + 1 : Nat) : Int) := by rw [wrap_i64] <;> omega
    have at1 := hv.at (k := .i64) Tryz.underlying22 sz32 (by decide) (i := (i : Int)) (by omega) (by omega)
    have at2 := ha1.at (k := .i64) Tryz.underlying25 sz38 (by decide) (i := (i : Int)) (by omega) (by omega)
    obtain ⟨dv, hcell, hok⟩ := okc.at_ (List.getElem?_eq_getElem h)
    have hrep := ha2.at_ (List.getElem?_eq_getElem h')
    have hrep2 := hrep
    obtain ⟨r3, r4, r10, er, b1, b2, b3⟩ := hrep
    injection er with er
    have rdc : readAt Tryz.prog 32 cs (i * 8) = some (.agg (callC l[i] dv)) := by
      rw [rd32, if_pos (by rw [okc.len]; omega)]
      exact congrArg (fun x => some (V.agg x)) hcell
    rw [er] at hrep2
    have rdr : readAt Tryz.prog 38 os (i * 10) = some (.agg [.int .i64 rs[i].err, .int .i64 rs[i].id, r3, r4, .int .i64 rs[i].info.obj, .int .u8 rs[i].info.kind, .int .i64 rs[i].info.links, .int .i64 rs[i].info.size, .str rs[i].info.to, r10]) := by
      rw [rd38, if_pos (by rw [ha2.len]; omega)]
      exact congrArg (fun x => some (V.agg x)) er
    have sdv := IsSl.scalar hok.data
    have pdv := IsSl.pure hok.data
    have t3 := IsSl.scalar b1
    have t4 := IsSl.scalar b2
    have t10 := IsSl.scalar b3
    have hp := hrep2.pure.1
    have hp' := hp
    simp only [pureL, V.pure, Bool.true_and, Bool.and_true, Bool.and_eq_true] at hp'
    obtain ⟨u3, u4, u10⟩ := hp'
    have fc : ∀ (g : Get) (m : Nat), AM.frz g (m + 2) (.agg (callC l[i] dv)) = some (.agg (callC l[i] dv)) := by
      intro g m
      have f1 := hok.data.frz (g := g) m
      show (frzL (AM.frz g (m + 1)) _).map _ = _
      simp only [callC, frzL, f1]
      rfl
    have bst := busy_step rl h
    cases qi : idleB l[i] rs[i] with
    | true =>
      rw [qi] at bst
      simp only [if_true, List.append_nil] at bst
      simp only [walk, walkL, evOp, quietOp, farOp, nov, gd, rho, putT, wr, Nat.reduceAdd, Nat.reduceSub, Bool.false_eq_true, if_true, if_false, reduceIte, reduceCtorEq, walkM, Int.reduceBEq, Int.reduceBNe, Int.reduceLT, Int.reduceLE, decide_true, decide_false, eq_self, Bool.not_true, Bool.not_false, ↓ev_fa, ↓ev_field, ↓ev_load, ↓ev_store, stO_cells, List.all_cons, List.all_nil, Bool.and_self, Bool.and_true, la, c1', at1, at2, Int.toNat_natCast, ↓rdc, ↓rdr]
      refine W.pcallT (idle_fz l[i] dv _ rs[i] hok.data hrep2) rfl rfl (frzL_cons (fc _ 10) (frzL_cons (hrep2.frz _ 10) rfl)) ?_
      rintro _ rfl
      rw [qi]
      simp only [walk, walkL, evOp, quietOp, farOp, nov, gd, rho, putT, wr, Nat.reduceAdd, Nat.reduceSub, Bool.false_eq_true, if_true, if_false, reduceIte, reduceCtorEq, walkM, Int.reduceBEq, Int.reduceBNe, Int.reduceLT, Int.reduceLE, decide_true, decide_false, eq_self, Bool.not_true, Bool.not_false, ↓ev_fa, ↓ev_field, ↓ev_load, ↓ev_store, stO_cells, List.all_cons, List.all_nil, Bool.and_self, Bool.and_true]
      refine W.opsK (by kernel_rfl) ?_
      simp only [walk, walkL, evOp, quietOp, farOp, nov, gd, rho, putT, wr, Nat.reduceAdd, Nat.reduceSub, Bool.false_eq_true, if_true, if_false, reduceIte, reduceCtorEq, walkM, Int.reduceBEq, Int.reduceBNe, Int.reduceLT, Int.reduceLE, decide_true, decide_false, eq_self, Bool.not_true, Bool.not_false, ↓ev_fa, ↓ev_field, ↓ev_load, ↓ev_store, stO_cells, List.all_cons, List.all_nil, Bool.and_self, Bool.and_true, wi]
      exact W.done ⟨i + 1, ⟨k, sv, tv, c1, c2, rfl, by omega, htw, by rw [bst]; exact hk, by rw [bst]; exact hcc, by rw [bst]; exact hrr⟩, by omega⟩
    | false =>
      rw [qi] at bst
      simp only [Bool.false_eq_true, if_false] at bst
      have isx : IsSl 8 (.islice (callC l[i] dv) 1 true) (callC l[i] dv) 1 := IsSl.mk rfl
      have isy : IsSl 10 (.islice [.int .i64 rs[i].err, .int .i64 rs[i].id, r3, r4, .int .i64 rs[i].info.obj, .int .u8 rs[i].info.kind, .int .i64 rs[i].info.links, .int .i64 rs[i].info.size, .str rs[i].info.to, r10] 1 true) [.int .i64 rs[i].err, .int .i64 rs[i].id, r3, r4, .int .i64 rs[i].info.obj, .int .u8 rs[i].info.kind, .int .i64 rs[i].info.links, .int .i64 rs[i].info.size, .str rs[i].info.to, r10] 1 := IsSl.mk rfl
      have kl := busy_len (l.take i) (rs.take i)
      rw [List.length_take] at kl
      obtain ⟨sv', tv', u1, u2, ap1, ap2, htw'⟩ := htw.add isx isy (by simp only [callC, pureL, V.pure, pdv, Bool.and_self]) hp (by simp only [callC, List.all_cons, sdv]; rfl) (by simp only [List.all_cons, t3, t4, t10]; rfl) (by omega) (pol.mt 3) rfl rfl
      generalize hw1 : wr H u1 = H1 at *
      generalize hw2 : wr H1 u2 = H2 at *
      simp only [callC] at ap1
      have m50 : pol.mt 3 50 = false := rfl
      have m57 : pol.mt 3 57 = false := rfl
      simp only [walk, walkL, evOp, quietOp, farOp, nov, gd, rho, putT, wr, Nat.reduceAdd, Nat.reduceSub, Bool.false_eq_true, if_true, if_false, reduceIte, reduceCtorEq, walkM, Int.reduceBEq, Int.reduceBNe, Int.reduceLT, Int.reduceLE, decide_true, decide_false, eq_self, Bool.not_true, Bool.not_false, ↓ev_fa, ↓ev_field, ↓ev_load, ↓ev_store, stO_cells, List.all_cons, List.all_nil, Bool.and_self, Bool.and_true, la, c1', at1, at2, Int.toNat_natCast, ↓rdc, ↓rdr]
      refine W.pcallT (idle_fz l[i] dv _ rs[i] hok.data hrep2) rfl rfl (frzL_cons (fc _ 10) (frzL_cons (hrep2.frz _ 10) rfl)) ?_
      rintro _ rfl
      rw [qi]
      simp only [walk, walkL, evOp, quietOp, farOp, nov, gd, rho, putT, wr, Nat.reduceAdd, Nat.reduceSub, Bool.false_eq_true, if_true, if_false, reduceIte, reduceCtorEq, walkM, Int.reduceBEq, Int.reduceBNe, Int.reduceLT, Int.reduceLE, decide_true, decide_false, eq_self, Bool.not_true, Bool.not_false, ↓ev_fa, ↓ev_field, ↓ev_load, ↓ev_store, stO_cells, List.all_cons, List.all_nil, Bool.and_self, Bool.and_true]
      refine W.opsK (by kernel_rfl) ?_
      simp only [walk, walkL, evOp, quietOp, farOp, nov, gd, rho, putT, wr, Nat.reduceAdd, Nat.reduceSub, Bool.false_eq_true, if_true, if_false, reduceIte, reduceCtorEq, walkM, Int.reduceBEq, Int.reduceBNe, Int.reduceLT, Int.reduceLE, decide_true, decide_false, eq_self, Bool.not_true, Bool.not_false, ↓ev_fa, ↓ev_field, ↓ev_load, ↓ev_store, stO_cells, List.all_cons, List.all_nil, Bool.and_self, Bool.and_true, at1, at2, Int.toNat_natCast, ↓rdc, ↓rdr, ta3, splice, zerosN, fillV, walkB, pureL, V.pure, Nat.reduceMul, Nat.reduceLeDiff, Nat.one_ne_zero, and_self, and_true, true_and, List.take_zero, List.drop_succ_cons, List.drop_zero, List.take_succ_cons, List.replicate_one, List.drop_nil, List.take_nil, Nat.le_refl, Nat.zero_add, Nat.zero_mul, Nat.one_mul, Nat.mul_one, Tryz.underlying22, Tryz.underlying25, callC, sdv, pdv, t3, t4, t10, u3, u4, u10, m50, m57, bi_append, ↓ap1, ↓hw1, ↓ap2, ↓hw2, wi]
      exact W.done ⟨i + 1, ⟨k + 1, sv', tv', _, _, rfl, by omega, htw', by rw [bst, List.length_append, ← hk]; rfl, by rw [bst, List.map_append]; exact hcc.app ⟨dv, [], (List.append_nil _).symm, hok, rfl⟩,
        by rw [bst, List.map_append]; exact hrr.addC ⟨_, [], (List.append_nil _).symm, rfl, hrep2, rfl⟩⟩, by omega⟩
end Go.Proofs.YtebbgmeomkjibaaGreat
end
