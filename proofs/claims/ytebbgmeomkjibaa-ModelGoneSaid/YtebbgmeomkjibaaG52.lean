/- This file holds in one the texts O36, O37; each says at its head what it proves. -/
import Derived.Test.YtebbgmeomkjibaaG50
import Derived.Test.YtebbgmeomkjibaaG51
set_option linter.unusedSimpArgs false
set_option linter.unusedVariables false
section
/- model: ModelGone. -/
set_option maxRecDepth 100000
namespace Go.Proofs.Ytebbgmeomkjibaa
open Go.AM Go.Mod

attribute [local irreducible] U W

theorem app_callsG {H : Heap} {s x : V} {cs ds : List V} {n m d : Nat} {mt : Nat → Bool} (hG : AllG H) (h : Gr H s cs n 8) (hx : IsSl 8 x ds m) (hp : pureL ds = true) (hs : ds.all V.scalar = true) (hd : hget H 0 d = none) (hm : mt d = false) (hn : n + m ≤ 1000) :
    ∃ s' w, appendV Try.prog mt 0 (hget H) (some d) 30 30 s x = some (.val s' w) ∧ Gr (wr H w) s' (cs ++ ds) (n + m) 8 ∧ AllG (wr H w) ∧ (∀ e, e ≠ d → hget H 0 e = none → hget (wr H w) 0 e = none) := by
  have hl := hG.len
  cases m with
  | zero =>
    have hds : ds = [] := List.eq_nil_of_length_eq_zero (by simpa using hx.1)
    subst hds
    refine ⟨s, none, ?_, by simpa [wr] using h, hG, fun e _ h => h⟩
    refine app_none Try.underlying30 sz28 by_call zc28 rfl Try.underlying30 ?_ (IsSl.sc hx)
    rcases h with ⟨rfl, _⟩ | ⟨f, sl, rfl, _⟩ <;> rfl
  | succ m =>
    rcases h with ⟨rfl, rfl, rfl⟩ | ⟨f, sl, rfl, hg, hc⟩
    · refine ⟨.gslice 0 d ds (m + 1) 8, some (0, d, .grow (m + 1)), ?_, .inr ⟨0, d, by simp, ?_, by simpa using hx.1⟩, hG.put d _, fun e he h => ?_⟩
      · rw [app_nil Try.underlying30 sz28 by_call zc28 rfl Try.underlying30 (IsSl.sc hx) (by omega) (roomy_of (by omega) (by omega)), grown_im hm hp hd]
      · simp only [wr]; rw [hget_same (by omega)]; simp
      · simp only [wr]; rw [hget_slot (by omega) he]; exact h
    · have hf := hget_lt hg
      obtain rfl : f = 0 := by omega
      refine ⟨.gslice 0 sl (cs ++ ds) (n + (m + 1)) 8, some (0, sl, .grow (n + (m + 1))), ?_, .inr ⟨0, sl, rfl, ?_, by rw [List.length_append, hc, hx.1]; omega⟩, hG.put sl _, fun e he h => ?_⟩
      · exact app_more Try.underlying30 sz28 by_call zc28 rfl Try.underlying30 (IsSl.sc hx) (by omega) (roomy_of (by omega) (by omega)) hp hs hg
      · simp only [wr]; exact hget_same hf
      · simp only [wr]
        by_cases q : e = sl
        · rw [← q, h] at hg; cases hg
        · rw [hget_slot hf q]; exact h

def linesCall : MCall := ⟨19, 0, 0, 0, [], [], [], []⟩
theorem linesC_ok : CallsC (callC linesCall .nilslice) [linesCall] := ⟨.nilslice, [], rfl, ⟨IsBytes.nil, Nat.zero_le _, Nat.zero_le _, Nat.zero_le _, Nat.zero_le _⟩, rfl⟩
theorem run_take (l : List MCall) {i : Nat} (h : i < l.length) : (runCalls emptySt (l.take (i + 1))).1 = (doCall (runCalls emptySt (l.take i)).1 l[i]).1 := by
  rw [List.take_add_one, List.getElem?_eq_getElem h, Option.toList_some, runCalls_app]; rfl
theorem run_get (l m : List MCall) {i : Nat} (h : i < l.length) : (runCalls emptySt (l ++ m)).2[i]? = some (doCall (runCalls emptySt (l.take i)).1 l[i]).2 := by
  have e : l ++ m = l.take i ++ (l[i] :: (l.drop (i + 1) ++ m)) := by
    rw [← List.cons_append, ← List.drop_eq_getElem_cons h, ← List.append_assoc, List.take_append_drop]
  have el : (runCalls emptySt (l.take i)).2.length = i := by rw [runCalls_len, List.length_take]; omega
  rw [e, runCalls_app, List.getElem?_append_right (by omega), el, Nat.sub_self]
  rfl
theorem rise_run (l : List MCall) : ∀ (i : Nat), i ≤ l.length → (ids (runCalls emptySt (l.take i)).1.lines).Pairwise (· < ·)
  | 0, _ => List.Pairwise.nil
  | i + 1, h => by
    rw [run_take l (by omega)]
    have ok := runCalls_ok (l.take i) emptySt 0 emptyOk
    exact rise_do ok (rise_run l i (by omega)) _

set_option maxHeartbeats 1000000 in
theorem gone_law (v : V) (cs : List V) (l : List MCall) (hv : IsSl 8 v cs l.length) (hc : CallsR cs l) : Fz Try.prog pol 6 [v] fun r => r = .bool true := by
  refine fz_of Try.func6 rfl ?_
  have lv := hv.len Try.underlying30
  simp only [walk, walkL, evOp, quietOp, farOp, nov, gd, rho, putT, wr, Nat.reduceAdd, Nat.reduceSub, Bool.false_eq_true, if_true, if_false, reduceIte, reduceCtorEq, walkM, Int.reduceBEq, Int.reduceBNe, Int.reduceLT, Int.reduceLE, decide_true, decide_false, eq_self, Bool.not_true, Bool.not_false, ↓ev_fa, ↓ev_field, ↓ev_load, ↓ev_store, stO_cells, List.all_cons, List.all_nil, Bool.and_self, Bool.and_true, Try.ntmps6]
  refine W.pcall alive_fz rfl rfl rfl ?_
  rintro _ rfl
  simp only [walk, walkL, evOp, quietOp, farOp, nov, gd, rho, putT, wr, Nat.reduceAdd, Nat.reduceSub, Bool.false_eq_true, if_true, if_false, reduceIte, reduceCtorEq, walkM, Int.reduceBEq, Int.reduceBNe, Int.reduceLT, Int.reduceLE, decide_true, decide_false, eq_self, Bool.not_true, Bool.not_false, ↓ev_fa, ↓ev_field, ↓ev_load, ↓ev_store, stO_cells, List.all_cons, List.all_nil, Bool.and_self, Bool.and_true]
  refine W.pcall (great_fz v cs l hv hc 40 (by decide)) rfl rfl (frzL_cons (hv.frz _) rfl) ?_
  rintro _ rfl
  cases g1 : greatB l 40 with
  | true =>
    simp only [walk, walkL, evOp, quietOp, farOp, nov, gd, rho, putT, wr, Nat.reduceAdd, Nat.reduceSub, Bool.false_eq_true, if_true, if_false, reduceIte, reduceCtorEq, walkM, Int.reduceBEq, Int.reduceBNe, Int.reduceLT, Int.reduceLE, decide_true, decide_false, eq_self, Bool.not_true, Bool.not_false, ↓ev_fa, ↓ev_field, ↓ev_load, ↓ev_store, stO_cells, List.all_cons, List.all_nil, Bool.and_self, Bool.and_true]
    exact W.done (EndZ.ret rfl rfl rfl)
  | false =>
    have n1 := great_no g1
    by_cases h40 : 40 < l.length
    · have d1 : decide ((l.length : Int) > 40) = true := decide_eq_true (by omega)
      simp only [walk, walkL, evOp, quietOp, farOp, nov, gd, rho, putT, wr, Nat.reduceAdd, Nat.reduceSub, Bool.false_eq_true, if_true, if_false, reduceIte, reduceCtorEq, walkM, Int.reduceBEq, Int.reduceBNe, Int.reduceLT, Int.reduceLE, decide_true, decide_false, eq_self, Bool.not_true, Bool.not_false, ↓ev_fa, ↓ev_field, ↓ev_load, ↓ev_store, stO_cells, List.all_cons, List.all_nil, Bool.and_self, Bool.and_true, lv, d1]
      exact W.done (EndZ.ret rfl rfl rfl)
    have d1 : decide ((l.length : Int) > 40) = false := decide_eq_false (by omega)
    have okc : CallsC cs l := hc.ok (by have := n1.2.1; rwa [List.take_of_length_le (by omega)] at this)
    obtain ⟨s1, u1, ap1, gr1, ag1, gk1⟩ := app_callsG (H := [[]]) (s := .nilslice) (x := v) (cs := []) (n := 0) (d := 29) (mt := pol.mt 6) ⟨[], rfl, fun e he => by cases he⟩ (.inl ⟨rfl, rfl, rfl⟩) hv hc.pure.1 hc.pure.2 rfl rfl (by omega)
    rw [List.nil_append, Nat.zero_add] at gr1
    generalize hw1 : wr [[]] u1 = H1 at *
    obtain ⟨s2, u2, ap2, gr2, ag2, gk2⟩ := app_callsG (H := H1) (s := s1) (d := 34) (mt := pol.mt 6) ag1 gr1 (IsSl.mk rfl : IsSl 8 (.islice (callC linesCall .nilslice) 1 true) (callC linesCall .nilslice) 1) rfl rfl (gk1 34 (by decide) rfl) rfl (by omega)
    generalize hw2 : wr H1 u2 = H2 at *
    obtain ⟨fr2, hf2, hs2⟩ := gr2.frz
    have p1 := play_fz fr2 _ (l ++ [linesCall]) (by rw [List.length_append]; exact hs2) (okc.app linesC_ok)
    have nl : ¬ 64 < (l ++ [linesCall]).length := by rw [List.length_append]; simp only [List.length_singleton]; omega
    simp only [nl, if_false] at p1
    have rlen : (runCalls emptySt (l ++ [linesCall])).2.length = l.length + 1 := by rw [runCalls_len, List.length_append]; rfl
    have rget := fun (i : Nat) (h : i < l.length) => run_get l [linesCall] h
    have rlast : (runCalls emptySt (l ++ [linesCall])).2[l.length]? = some (doCall (runCalls emptySt l).1 linesCall).2 := by
      have e : (runCalls emptySt l).2.length = l.length := runCalls_len l emptySt
      rw [runCalls_app, List.getElem?_append_right (by omega), e, Nat.sub_self]; rfl
    generalize (runCalls emptySt (l ++ [linesCall])).2 = rs at *
    have m33 : pol.mt 6 33 = false := rfl
    have m64 : pol.mt 6 64 = false := rfl
    have m101 : pol.mt 6 101 = false := rfl
    simp only [callC, linesCall] at ap2
    simp only [walk, walkL, evOp, quietOp, farOp, nov, gd, rho, putT, wr, Nat.reduceAdd, Nat.reduceSub, Bool.false_eq_true, if_true, if_false, reduceIte, reduceCtorEq, walkM, Int.reduceBEq, Int.reduceBNe, Int.reduceLT, Int.reduceLE, decide_true, decide_false, eq_self, Bool.not_true, Bool.not_false, ↓ev_fa, ↓ev_field, ↓ev_load, ↓ev_store, stO_cells, List.all_cons, List.all_nil, Bool.and_self, Bool.and_true, lv, d1, ta6, splice, zerosN, fillV, walkB, pureL, V.pure, Nat.reduceMul, Nat.reduceLeDiff, Nat.one_ne_zero, and_self, and_true, true_and, List.take_zero, List.drop_succ_cons, List.drop_zero, List.take_succ_cons, List.replicate_one, List.drop_nil, List.take_nil, Nat.le_refl, Nat.zero_add, Nat.zero_mul, Nat.one_mul, Nat.mul_one, Try.underlying30, m33, bi_append, ↓ap1, ↓hw1, ↓ap2, ↓hw2]
    refine W.pcall' p1 rfl rfl (frzL_cons (hf2 _ 11) rfl) ?_
    rintro _ ⟨av, os, rfl, ha1, ha2⟩
    simp only [walk, walkL, evOp, quietOp, farOp, nov, gd, rho, putT, wr, Nat.reduceAdd, Nat.reduceSub, Bool.false_eq_true, if_true, if_false, reduceIte, reduceCtorEq, walkM, Int.reduceBEq, Int.reduceBNe, Int.reduceLT, Int.reduceLE, decide_true, decide_false, eq_self, Bool.not_true, Bool.not_false, ↓ev_fa, ↓ev_field, ↓ev_load, ↓ev_store, stO_cells, List.all_cons, List.all_nil, Bool.and_self, Bool.and_true]
    refine W.ul ?_
    refine W.loop (fun (i : Nat) t H => ∃ th, maskT [0, 5, 7, 8, 9] t 0 = stG v av (.int .i64 (runCalls emptySt (l.take i)).1.last) th (.int .i64 i) ∧ i ≤ l.length ∧ AllG H ∧ InS [200, 65, 102] H th (ids (runCalls emptySt (l.take i)).1.lines)) (fun i => l.length - i) ?_ 0
      ⟨.nilslice, rfl, by omega, ag2, .inl ⟨rfl, rfl⟩⟩ rfl
    rintro i t H ⟨th0, ht, hi, hG0, hI0⟩
    obtain ⟨th, H3, hf, hG, hI, h65, h102, h200⟩ := forget_gone hv ha1 ht hG0 hI0
    refine ⟨_, _, hf, ?_⟩
    clear hf hG0 hI0 ht
    simp only [stG, st6_12]
    have ok := runCalls_ok (l.take i) emptySt 0 emptyOk
    rw [Nat.zero_add, List.length_take, Nat.min_eq_left hi] at ok
    have rise := rise_run l i hi
    have idl : (ids (runCalls emptySt (l.take i)).1.lines).length ≤ i := by rw [ids, List.length_map]; exact ok.cnt
    have lth := hI.frz.len (P := Try.prog) (u := 34) Try.underlying34
    by_cases h : i < l.length
    case neg =>
      have e : i = l.length := by omega
      subst e
      rw [List.take_length] at *
      have c1 : decide ((l.length : Int) < l.length) = false := decide_eq_false (by omega)
      have at1 := ha1.at (k := .i64) Try.underlying22 sz36 (by decide) (i := (l.length : Int)) (by omega) (by omega)
      have hr := ha2.at_ rlast
      have el : (doCall (runCalls emptySt l).1 linesCall).2.lines = ids (runCalls emptySt l).1.lines := sortZ_rise rise
      obtain ⟨r3, r4, r10, er, _, _, h10⟩ := hr
      injection er with er
      have f9 : os[l.length * 10 + 9]? = some r10 := cell_of er (by decide)
      rw [el] at h10
      generalize ids (runCalls emptySt l).1.lines = il at *
      generalize (runCalls emptySt l).1.last = la at *
      simp only [walk, walkL, evOp, quietOp, farOp, nov, gd, rho, putT, wr, Nat.reduceAdd, Nat.reduceSub, Bool.false_eq_true, if_true, if_false, reduceIte, reduceCtorEq, walkM, Int.reduceBEq, Int.reduceBNe, Int.reduceLT, Int.reduceLE, decide_true, decide_false, eq_self, Bool.not_true, Bool.not_false, ↓ev_fa, ↓ev_field, ↓ev_load, ↓ev_store, stO_cells, List.all_cons, List.all_nil, Bool.and_self, Bool.and_true, lv, c1]
      refine W.done ?_
      simp only [walk, walkL, evOp, quietOp, farOp, nov, gd, rho, putT, wr, Nat.reduceAdd, Nat.reduceSub, Bool.false_eq_true, if_true, if_false, reduceIte, reduceCtorEq, walkM, Int.reduceBEq, Int.reduceBNe, Int.reduceLT, Int.reduceLE, decide_true, decide_false, eq_self, Bool.not_true, Bool.not_false, ↓ev_fa, ↓ev_field, ↓ev_load, ↓ev_store, stO_cells, List.all_cons, List.all_nil, Bool.and_self, Bool.and_true, lv, at1, Int.toNat_natCast, ↓f9, ta6]
      refine W.ul ?_
      refine W.loop (fun (k : Nat) t H => maskT [8, 12, 13] t 0 = st6_31 th r10 (.int .i64 k) ∧ k ≤ il.length) (fun k => il.length - k) ?_ 0 ⟨rfl, by omega⟩ rfl
      rintro k t H ⟨ht, hk⟩
      refine ⟨_, _, forget_keep (kt := [8, 12, 13]) rfl, ?_⟩
      rw [ht]
      simp only [st6_31]
      have l10 := h10.len Try.underlying34
      by_cases hkl : k < il.length
      · have c2 : decide ((k : Int) < il.length) = true := decide_eq_true (by omega)
        have wk : (IntKind.i64).wrap ((k : Int) + 1) = ((k + 1 : Nat) : Int) := by rw [wrap_i64] <;> omega
        have at2 := h10.at (k := .i64) Try.underlying34 sz3 (by decide) (i := (k : Int)) (by omega) (by omega)
        rcases hI with ⟨rfl, rfl⟩ | ⟨s, _, rfl, _⟩
        · simp at hkl
        have at3 := at_g (P := Try.prog) (u := 34) (e := 3) Try.underlying34 sz3 (f := 0) (s := s) (len := il.length) (cs := ofInts il) (k := .i64) (i := (k : Int)) (by omega) (by omega)
        have g1 : (ofInts il)[k * 1]? = some (V.int .i64 il[k]) := by simp [hkl, ofInts]
        have bq : (il[k] != il[k]) = false := by simp
        simp only [walk, walkL, evOp, quietOp, farOp, nov, gd, rho, putT, wr, Nat.reduceAdd, Nat.reduceSub, Bool.false_eq_true, if_true, if_false, reduceIte, reduceCtorEq, walkM, Int.reduceBEq, Int.reduceBNe, Int.reduceLT, Int.reduceLE, decide_true, decide_false, eq_self, Bool.not_true, Bool.not_false, ↓ev_fa, ↓ev_field, ↓ev_load, ↓ev_store, stO_cells, List.all_cons, List.all_nil, Bool.and_self, Bool.and_true, lth, l10, c2, at2, at3, Int.toNat_natCast, g1, bq, ta6]
        refine W.opsK (by kernel_rfl) ?_
        simp only [walk, walkL, evOp, quietOp, farOp, nov, gd, rho, putT, wr, Nat.reduceAdd, Nat.reduceSub, Bool.false_eq_true, if_true, if_false, reduceIte, reduceCtorEq, walkM, Int.reduceBEq, Int.reduceBNe, Int.reduceLT, Int.reduceLE, decide_true, decide_false, eq_self, Bool.not_true, Bool.not_false, ↓ev_fa, ↓ev_field, ↓ev_load, ↓ev_store, stO_cells, List.all_cons, List.all_nil, Bool.and_self, Bool.and_true, wk]
        exact W.done ⟨k + 1, ⟨rfl, by omega⟩, by omega⟩
      · have e : k = il.length := by omega
        subst e
        have c2 : decide ((il.length : Int) < il.length) = false := decide_eq_false (by omega)
        have bq : ((il.length : Int) == il.length) = true := by simp
        simp only [walk, walkL, evOp, quietOp, farOp, nov, gd, rho, putT, wr, Nat.reduceAdd, Nat.reduceSub, Bool.false_eq_true, if_true, if_false, reduceIte, reduceCtorEq, walkM, Int.reduceBEq, Int.reduceBNe, Int.reduceLT, Int.reduceLE, decide_true, decide_false, eq_self, Bool.not_true, Bool.not_false, ↓ev_fa, ↓ev_field, ↓ev_load, ↓ev_store, stO_cells, List.all_cons, List.all_nil, Bool.and_self, Bool.and_true, lth, l10, c2, ta6]
        refine W.done ?_
        simp only [walk, walkL, evOp, quietOp, farOp, nov, gd, rho, putT, wr, Nat.reduceAdd, Nat.reduceSub, Bool.false_eq_true, if_true, if_false, reduceIte, reduceCtorEq, walkM, Int.reduceBEq, Int.reduceBNe, Int.reduceLT, Int.reduceLE, decide_true, decide_false, eq_self, Bool.not_true, Bool.not_false, ↓ev_fa, ↓ev_field, ↓ev_load, ↓ev_store, stO_cells, List.all_cons, List.all_nil, Bool.and_self, Bool.and_true, lth, l10, bq]
        exact W.done (EndZ.ret rfl rfl rfl)
    have c1 : decide ((i : Int) < l.length) = true := decide_eq_true (by omega)
    have wi : (IntKind.i64).wrap ((i : Int) + 1) = ((i + 1 : Nat) : Int) := by rw [wrap_i64] <;> omega
    have at1 := ha1.at (k := .i64) Try.underlying22 sz36 (by decide) (i := (i : Int)) (by omega) (by omega)
    have at2 := hv.at (k := .i64) Try.underlying30 sz28 (by decide) (i := (i : Int)) (by omega) (by omega)
    have hr := ha2.at_ (rget i h)
    have gr := gone_r ok l[i]
    have st := run_take l h
    have okn := ok.last0
    have okm := ok.last1
    generalize (runCalls emptySt (l.take i)).1 = S at *
    generalize (doCall S l[i]).1 = S' at *
    generalize (doCall S l[i]).2 = r at *
    obtain ⟨r3, r4, r10, er, _⟩ := hr
    injection er with er
    have f0 : os[i * 10 + 0]? = some (.int .i64 r.err) := cell_of er (by decide)
    have f1 : os[i * 10 + 1]? = some (.int .i64 r.id) := cell_of er (by decide)
    obtain ⟨dv, hcell, _⟩ := okc.at_ (List.getElem?_eq_getElem h)
    have k0 : cs[i * 8 + 0]? = some (.int .u8 l[i].kind) := cell_of hcell (by decide)
    have k1 : cs[i * 8 + 1]? = some (.int .i64 l[i].a) := cell_of hcell (by decide)
    cases gr with
    | same q1 q2 q3 q4 =>
      have b1 : decide (r.id > 0) = false := decide_eq_false (by omega)
      have nx : ∃ th', True ∧ AllG H3 ∧ InS [200, 65, 102] H3 th (ids (runCalls emptySt (l.take (i + 1))).1.lines) := ⟨th, trivial, hG, by rw [st, q4]; exact hI.mono (by simp)⟩
      obtain ⟨_, _, nG, nI⟩ := nx
      have nl : (runCalls emptySt (l.take (i + 1))).1.last = S.last := by rw [st, q3]
      by_cases k6 : l[i].kind = 6
      · have b2 : (l[i].kind == 6) = true := by simpa using k6
        have b3 : (r.err == 0) = false := by simpa using q2 k6
        simp only [walk, walkL, evOp, quietOp, farOp, nov, gd, rho, putT, wr, Nat.reduceAdd, Nat.reduceSub, Bool.false_eq_true, if_true, if_false, reduceIte, reduceCtorEq, walkM, Int.reduceBEq, Int.reduceBNe, Int.reduceLT, Int.reduceLE, decide_true, decide_false, eq_self, Bool.not_true, Bool.not_false, ↓ev_fa, ↓ev_field, ↓ev_load, ↓ev_store, stO_cells, List.all_cons, List.all_nil, Bool.and_self, Bool.and_true, lv, c1, at1, at2, Int.toNat_natCast, ↓f0, ↓f1, ↓k0, b1, b2, b3, wi, ta6]
        exact W.done ⟨i + 1, ⟨th, by rw [nl]; rfl, by omega, nG, nI⟩, by omega⟩
      · have b2 : (l[i].kind == 6) = false := by simpa using k6
        simp only [walk, walkL, evOp, quietOp, farOp, nov, gd, rho, putT, wr, Nat.reduceAdd, Nat.reduceSub, Bool.false_eq_true, if_true, if_false, reduceIte, reduceCtorEq, walkM, Int.reduceBEq, Int.reduceBNe, Int.reduceLT, Int.reduceLE, decide_true, decide_false, eq_self, Bool.not_true, Bool.not_false, ↓ev_fa, ↓ev_field, ↓ev_load, ↓ev_store, stO_cells, List.all_cons, List.all_nil, Bool.and_self, Bool.and_true, lv, c1, at1, at2, Int.toNat_natCast, ↓f0, ↓f1, ↓k0, b1, b2, wi, ta6]
        exact W.done ⟨i + 1, ⟨th, by rw [nl]; rfl, by omega, nG, nI⟩, by omega⟩
    | more q1 q2 q3 q4 =>
      have b1 : decide (r.id > 0) = true := decide_eq_true (by omega)
      have w1 : (IntKind.i64).wrap (S.last + 1) = S.last + 1 := by rw [wrap_i64] <;> omega
      have b2 : (l[i].kind == 6) = false := by simpa using q2
      have b3 : (S.last + 1 != S.last + 1) = false := by simp
      rw [q1] at f1 b1
      obtain ⟨th', w, ap, nI, nG, _⟩ := hI.add hG 65 (fun _ => h65) (S.last + 1) (mt := pol.mt 6) rfl (by omega)
      generalize hw : wr H3 w = H4 at *
      simp only [walk, walkL, evOp, quietOp, farOp, nov, gd, rho, putT, wr, Nat.reduceAdd, Nat.reduceSub, Bool.false_eq_true, if_true, if_false, reduceIte, reduceCtorEq, walkM, Int.reduceBEq, Int.reduceBNe, Int.reduceLT, Int.reduceLE, decide_true, decide_false, eq_self, Bool.not_true, Bool.not_false, ↓ev_fa, ↓ev_field, ↓ev_load, ↓ev_store, stO_cells, List.all_cons, List.all_nil, Bool.and_self, Bool.and_true, lv, c1, at1, at2, Int.toNat_natCast, ↓f0, ↓f1, ↓k0, b1, b2, b3, w1, wi, ta6, splice, zerosN, fillV, walkB, pureL, V.pure, Nat.reduceMul, Nat.reduceLeDiff, Nat.one_ne_zero, and_self, and_true, true_and, List.take_zero, List.drop_succ_cons, List.drop_zero, List.take_succ_cons, List.replicate_one, List.drop_nil, List.take_nil, Nat.le_refl, Nat.zero_add, Nat.zero_mul, Nat.one_mul, Nat.mul_one, Try.underlying34, m64, bi_append, ↓ap, ↓hw]
      exact W.done ⟨i + 1, ⟨th', by rw [st, q3]; rfl, by omega, nG, by rw [st, q4]; exact nI.mono (by simp)⟩, by omega⟩
    | less q1 q2 q5 q3 q4 q6 =>
      have b1 : decide (r.id > 0) = false := decide_eq_false (by omega)
      have b2 : (l[i].kind == 6) = true := by simpa using q2
      have b3 : (r.err == 0) = true := by simpa using q5
      have fl := filter_ne_len ok.uniq q6
      generalize hil : ids S.lines = il at *
      simp only [walk, walkL, evOp, quietOp, farOp, nov, gd, rho, putT, wr, Nat.reduceAdd, Nat.reduceSub, Bool.false_eq_true, if_true, if_false, reduceIte, reduceCtorEq, walkM, Int.reduceBEq, Int.reduceBNe, Int.reduceLT, Int.reduceLE, decide_true, decide_false, eq_self, Bool.not_true, Bool.not_false, ↓ev_fa, ↓ev_field, ↓ev_load, ↓ev_store, stO_cells, List.all_cons, List.all_nil, Bool.and_self, Bool.and_true, lv, c1, at1, at2, Int.toNat_natCast, ↓f0, ↓f1, ↓k0, b1, b2, b3, ta6]
      refine W.ul ?_
      refine W.loop (fun (k : Nat) t H => ∃ lf, maskT [0, 5, 7, 8, 9, 10, 11] t 0 = st6_22 v av (.int .i64 S.last) th (.int .i64 i) lf (.int .i64 k) ∧ k ≤ il.length ∧ AllG H ∧ InS [102] H lf ((il.take k).filter fun x => x ≠ l[i].a) ∧ (lf = .nilslice → hget H 0 102 = none)) (fun k => il.length - k) ?_ 0
        ⟨.nilslice, rfl, by omega, hG, .inl ⟨rfl, rfl⟩, fun _ => h102⟩ rfl
      rintro k t H ⟨lf, ht, hk, hGk, hIk, hnk⟩
      refine ⟨_, _, forget_keep (kt := [0, 5, 7, 8, 9, 10, 11]) rfl, ?_⟩
      rw [ht]
      simp only [st6_22]
      have lk := hIk.frz.len (P := Try.prog) (u := 34) Try.underlying34
      by_cases hkl : k < il.length
      · have c2 : decide ((k : Int) < il.length) = true := decide_eq_true (by omega)
        have wk : (IntKind.i64).wrap ((k : Int) + 1) = ((k + 1 : Nat) : Int) := by rw [wrap_i64] <;> omega
        rcases hI with ⟨_, rfl⟩ | ⟨s, _, rfl, _⟩
        · simp at hkl
        have at3 := at_g (P := Try.prog) (u := 34) (e := 3) Try.underlying34 sz3 (f := 0) (s := s) (len := il.length) (cs := ofInts il) (k := .i64) (i := (k : Int)) (by omega) (by omega)
        have g1 : (ofInts il)[k * 1]? = some (V.int .i64 il[k]) := by simp [hkl, ofInts]
        have stk : (il.take (k + 1)).filter (fun x => x ≠ l[i].a) = (il.take k).filter (fun x => x ≠ l[i].a) ++ (if il[k] = l[i].a then [] else [il[k]]) := by
          rw [List.take_add_one, List.getElem?_eq_getElem hkl, Option.toList_some, List.filter_append]
          congr 1
          by_cases q : il[k] = l[i].a <;> simp [q]
        by_cases q : il[k] = l[i].a
        · have bq : (il[k] != l[i].a) = false := by simpa using q
          rw [if_pos q, List.append_nil] at stk
          simp only [walk, walkL, evOp, quietOp, farOp, nov, gd, rho, putT, wr, Nat.reduceAdd, Nat.reduceSub, Bool.false_eq_true, if_true, if_false, reduceIte, reduceCtorEq, walkM, Int.reduceBEq, Int.reduceBNe, Int.reduceLT, Int.reduceLE, decide_true, decide_false, eq_self, Bool.not_true, Bool.not_false, ↓ev_fa, ↓ev_field, ↓ev_load, ↓ev_store, stO_cells, List.all_cons, List.all_nil, Bool.and_self, Bool.and_true, lth, c2, at2, at3, Int.toNat_natCast, g1, ↓k1, bq, ta6]
          refine W.opsK (by kernel_rfl) ?_
          simp only [walk, walkL, evOp, quietOp, farOp, nov, gd, rho, putT, wr, Nat.reduceAdd, Nat.reduceSub, Bool.false_eq_true, if_true, if_false, reduceIte, reduceCtorEq, walkM, Int.reduceBEq, Int.reduceBNe, Int.reduceLT, Int.reduceLE, decide_true, decide_false, eq_self, Bool.not_true, Bool.not_false, ↓ev_fa, ↓ev_field, ↓ev_load, ↓ev_store, stO_cells, List.all_cons, List.all_nil, Bool.and_self, Bool.and_true, wk]
          exact W.done ⟨k + 1, ⟨lf, rfl, by omega, hGk, by rw [stk]; exact hIk, hnk⟩, by omega⟩
        · have bq : (il[k] != l[i].a) = true := by simpa using q
          rw [if_neg q] at stk
          have fk := List.length_filter_le (fun x => decide (x ≠ l[i].a)) (il.take k)
          rw [List.length_take] at fk
          obtain ⟨lf', w, ap, nI, nG, _⟩ := hIk.add hGk 102 hnk il[k] (mt := pol.mt 6) rfl (by omega)
          generalize hw : wr H w = H4 at *
          have nn : lf' = .nilslice → hget H4 0 102 = none := by
            rintro rfl
            rcases nI with ⟨_, h⟩ | ⟨s, _, h, _⟩
            · simp at h
            · cases h
          simp only [walk, walkL, evOp, quietOp, farOp, nov, gd, rho, putT, wr, Nat.reduceAdd, Nat.reduceSub, Bool.false_eq_true, if_true, if_false, reduceIte, reduceCtorEq, walkM, Int.reduceBEq, Int.reduceBNe, Int.reduceLT, Int.reduceLE, decide_true, decide_false, eq_self, Bool.not_true, Bool.not_false, ↓ev_fa, ↓ev_field, ↓ev_load, ↓ev_store, stO_cells, List.all_cons, List.all_nil, Bool.and_self, Bool.and_true, lth, c2, at2, at3, Int.toNat_natCast, g1, ↓k1, bq, ta6]
          refine W.opsK (by kernel_rfl) ?_
          have g2 : (ofInts il)[k]? = some (V.int .i64 il[k]) := by simp [hkl, ofInts]
          simp only [walk, walkL, evOp, quietOp, farOp, nov, gd, rho, putT, wr, Nat.reduceAdd, Nat.reduceSub, Bool.false_eq_true, if_true, if_false, reduceIte, reduceCtorEq, walkM, Int.reduceBEq, Int.reduceBNe, Int.reduceLT, Int.reduceLE, decide_true, decide_false, eq_self, Bool.not_true, Bool.not_false, ↓ev_fa, ↓ev_field, ↓ev_load, ↓ev_store, stO_cells, List.all_cons, List.all_nil, Bool.and_self, Bool.and_true, at3, Int.toNat_natCast, g2, ta6, splice, zerosN, fillV, walkB, pureL, V.pure, Nat.reduceMul, Nat.reduceLeDiff, Nat.one_ne_zero, and_self, and_true, true_and, List.take_zero, List.drop_succ_cons, List.drop_zero, List.take_succ_cons, List.replicate_one, List.drop_nil, List.take_nil, Nat.le_refl, Nat.zero_add, Nat.zero_mul, Nat.one_mul, Nat.mul_one, Try.underlying34, m101, bi_append, ↓ap, ↓hw, wk]
          exact W.done ⟨k + 1, ⟨lf', rfl, by omega, nG, by rw [stk]; exact nI.mono (by simp), nn⟩, by omega⟩
      · have e : k = il.length := by omega
        subst e
        have c2 : decide ((il.length : Int) < il.length) = false := decide_eq_false (by omega)
        rw [List.take_length] at hIk lk
        have wl : (IntKind.i64).wrap ((il.length : Int) - 1) = ((il.filter fun x => x ≠ l[i].a).length : Int) := by rw [wrap_i64] <;> omega
        have bq : (((il.filter fun x => x ≠ l[i].a).length : Int) != ((il.filter fun x => x ≠ l[i].a).length : Int)) = false := by simp
        simp only [walk, walkL, evOp, quietOp, farOp, nov, gd, rho, putT, wr, Nat.reduceAdd, Nat.reduceSub, Bool.false_eq_true, if_true, if_false, reduceIte, reduceCtorEq, walkM, Int.reduceBEq, Int.reduceBNe, Int.reduceLT, Int.reduceLE, decide_true, decide_false, eq_self, Bool.not_true, Bool.not_false, ↓ev_fa, ↓ev_field, ↓ev_load, ↓ev_store, stO_cells, List.all_cons, List.all_nil, Bool.and_self, Bool.and_true, lth, c2]
        refine W.done ?_
        simp only [walk, walkL, evOp, quietOp, farOp, nov, gd, rho, putT, wr, Nat.reduceAdd, Nat.reduceSub, Bool.false_eq_true, if_true, if_false, reduceIte, reduceCtorEq, walkM, Int.reduceBEq, Int.reduceBNe, Int.reduceLT, Int.reduceLE, decide_true, decide_false, eq_self, Bool.not_true, Bool.not_false, ↓ev_fa, ↓ev_field, ↓ev_load, ↓ev_store, stO_cells, List.all_cons, List.all_nil, Bool.and_self, Bool.and_true, lth, lk, wl, bq, wi]
        exact W.done ⟨i + 1, ⟨lf, by rw [st, q3]; rfl, by omega, hGk, by rw [st, q4]; exact hIk.mono (by simp)⟩, by omega⟩
end Go.Proofs.Ytebbgmeomkjibaa
end
section
/- ModelGone: from what the abstract machine answers to the given row. Conditions: those of the given row, no other. -/
set_option maxRecDepth 100000
namespace Go.Proofs.Ytebbgmeomkjibaa
open Go.AM Go.Mod Go.ChangeShapes Go.WideShapes Go.ChangeAt Go.RowKit

theorem modelGone_args : ∀ xs, ArgsRead Try.prog [30] xs → ∃ H', callW Try.prog pol 6 xs [] = some (.ret (.bool true), H') := by
  intro xs h
  obtain ⟨n1, y1, r1, a1, rfl, rfl⟩ := h
  obtain ⟨l1, cs1, h1, g1⟩ := arg_calls a1
  exact fz_true (gone_law y1 cs1 l1 h1 g1)

theorem modelGone_own : ownKnob Try.prog.godebug = none := by kernel_rfl
theorem modelGone_lifted (os : Os) (started : os.Started) (H : Type) (enc : TypeId × Value → H) :
    ReturnsInHanded {} Try.checked os 6 .any (Rows.modelGoneSpec.pre6 enc Try.prog Try.f6 Rows.modelGoneRow.domain false) (Rows.modelGoneSpec.post enc Try.prog Try.f6 false true false false) := by
  refine returnsInHanded_of_change (C := Try.checked) modelGone_own started (by kernel_rfl) Try.func6
    (ChangeSpec.witness6 (enc := enc) (C := Try.checked) false ⟨#[], #[.slice none 0 0], []⟩ 8 (by kernel_rfl) (by kernel_rfl) (by kernel_rfl) (by kernel_rfl)) ?_
  intro W base args ds gs before hval hW _ _
  exact law_contract (ts := [30]) (tb := 4) (book := [30, 28, 5, 3, 9, 26]) ok (by kernel_rfl) (congrArg Array.toList Try.params6) (by kernel_rfl) Try.underlying4 (by kernel_rfl) (by kernel_rfl) (s := Rows.modelGoneSpec) rfl
    (fun ds hd => by
      match ds, hd with
      | [_], _ => exact ⟨rfl, rfl, rfl⟩)
    modelGone_args hval hW

theorem modelGone_holds : Rows.ModelGoneSaid :=
  OpenClaim.holds_of_wide 6 Try.f6 rfl rfl rfl rfl rfl rfl rfl ⟨rfl, rfl, rfl, rfl, rfl⟩ rfl rfl rfl rfl rfl (by kernel_rfl) Try.func6 (by kernel_rfl)
    (of_decide_eq_true (by kernel_rfl)) (by unfold Func.isWrapper; first | (rw [if_pos (by decide +kernel)]; kernel_rfl) | (rw [if_neg (by decide +kernel)]; exact ⟨rfl, rfl⟩))
    (fun os started H enc _ => modelGone_lifted os started H enc)
#print axioms modelGone_holds
end Go.Proofs.Ytebbgmeomkjibaa
end
