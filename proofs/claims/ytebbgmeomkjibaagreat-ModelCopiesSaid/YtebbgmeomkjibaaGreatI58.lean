/- This file holds in one the texts ZO45; each says at its head what it proves. -/
import Derived.Test.YtebbgmeomkjibaaGreatI55
set_option linter.unusedSimpArgs false
set_option linter.unusedVariables false
section
/- model: ModelCopies. -/
set_option maxRecDepth 100000
namespace Go.Proofs.YtebbgmeomkjibaaGreat
open Go.AM Go.Mod

attribute [local irreducible] U W

def unlinkAt (i : Int) (nm : Bytes) : MCall := ⟨12, i, 0, 0, nm, [], [], []⟩
def makeZ (i : Int) : MCall := ⟨9, i, 0, 0, [122, 122], [], [], []⟩
def snapC (id : Int) : List V := [.int .u8 2, .int .i64 id, .int .i64 0, .int .i64 0, .str [], .str [], .str [], .nilslice]
def twoC (id s : Int) : List V := [.int .u8 2, .int .i64 id, .int .i64 0, .int .i64 0, .str [], .str [], .str [], .nilslice, .int .u8 3, .int .i64 s, .int .i64 0, .int .i64 0, .str [], .str [], .str [], .nilslice]
def threeC (id : Int) (nm : Bytes) : List V := [.int .u8 12, .int .i64 id, .int .i64 0, .int .i64 0, .str nm, .str [], .str [], .nilslice, .int .u8 9, .int .i64 id, .int .i64 0, .int .i64 0, .str [122, 122], .str [], .str [], .nilslice, .int .u8 5, .int .i64 id, .int .i64 0, .int .i64 0, .str [], .str [], .str [], .nilslice]
theorem snapC_ok (i : Int) : CallsC (snapC i) [snapAt i] := ⟨.nilslice, [], rfl, ⟨IsBytes.nil, Nat.zero_le _, Nat.zero_le _, Nat.zero_le _, Nat.zero_le _⟩, rfl⟩
theorem twoC_ok (i s : Int) : CallsC (twoC i s) [snapAt i, cloneAt s] := ⟨.nilslice, _, rfl, ⟨IsBytes.nil, Nat.zero_le _, Nat.zero_le _, Nat.zero_le _, Nat.zero_le _⟩, .nilslice, [], rfl, ⟨IsBytes.nil, Nat.zero_le _, Nat.zero_le _, Nat.zero_le _, Nat.zero_le _⟩, rfl⟩
theorem threeC_ok (i : Int) {nm : Bytes} (h : nm.length ≤ 1000) : CallsC (threeC i nm) [unlinkAt i nm, makeZ i, rollAt i] :=
  ⟨.nilslice, _, rfl, ⟨IsBytes.nil, by show nm.length ≤ 100000; omega, Nat.zero_le _, Nat.zero_le _, Nat.zero_le _⟩, .nilslice, _, rfl, ⟨IsBytes.nil, by show 2 ≤ 100000; omega, Nat.zero_le _, Nat.zero_le _, Nat.zero_le _⟩, .nilslice, [], rfl, ⟨IsBytes.nil, Nat.zero_le _, Nat.zero_le _, Nat.zero_le _, Nat.zero_le _⟩, rfl⟩

theorem copies_fz (v : V) (cs : List V) (l : List MCall) (m : Int) (nm : Bytes) (hv : IsSl 8 v cs l.length) (hc : CallsR cs l) : Fz Tryz.prog pol 4 [v, .int .i64 m, .str nm] fun r => r = .bool true := by
  refine fz_of Tryz.func4 rfl ?_
  have lv := hv.len Tryz.underlying22
  simp only [walk, walkL, evOp, quietOp, farOp, nov, gd, rho, putT, wr, Nat.reduceAdd, Nat.reduceSub, Bool.false_eq_true, if_true, if_false, reduceIte, reduceCtorEq, walkM, Int.reduceBEq, Int.reduceBNe, Int.reduceLT, Int.reduceLE, decide_true, decide_false, eq_self, Bool.not_true, Bool.not_false, ↓ev_fa, ↓ev_field, ↓ev_load, ↓ev_store, stO_cells, List.all_cons, List.all_nil, Bool.and_self, Bool.and_true, Tryz.ntmps4]
  refine W.pcall alive_fz rfl rfl rfl ?_
  rintro _ rfl
  simp only [walk, walkL, evOp, quietOp, farOp, nov, gd, rho, putT, wr, Nat.reduceAdd, Nat.reduceSub, Bool.false_eq_true, if_true, if_false, reduceIte, reduceCtorEq, walkM, Int.reduceBEq, Int.reduceBNe, Int.reduceLT, Int.reduceLE, decide_true, decide_false, eq_self, Bool.not_true, Bool.not_false, ↓ev_fa, ↓ev_field, ↓ev_load, ↓ev_store, stO_cells, List.all_cons, List.all_nil, Bool.and_self, Bool.and_true]
  refine W.pcall (great_fz v cs l hv hc 30 (by decide)) rfl rfl (frzL_cons (hv.frz _) rfl) ?_
  rintro _ rfl
  cases g1 : greatB l 30 with
  | true =>
    simp only [walk, walkL, evOp, quietOp, farOp, nov, gd, rho, putT, wr, Nat.reduceAdd, Nat.reduceSub, Bool.false_eq_true, if_true, if_false, reduceIte, reduceCtorEq, walkM, Int.reduceBEq, Int.reduceBNe, Int.reduceLT, Int.reduceLE, decide_true, decide_false, eq_self, Bool.not_true, Bool.not_false, ↓ev_fa, ↓ev_field, ↓ev_load, ↓ev_store, stO_cells, List.all_cons, List.all_nil, Bool.and_self, Bool.and_true]
    exact W.done (EndZ.ret rfl rfl rfl)
  | false =>
    have n1 := great_no g1
    by_cases h40 : 30 < l.length
    · have d1 : decide ((l.length : Int) > 30) = true := decide_eq_true (by omega)
      simp only [walk, walkL, evOp, quietOp, farOp, nov, gd, rho, putT, wr, Nat.reduceAdd, Nat.reduceSub, Bool.false_eq_true, if_true, if_false, reduceIte, reduceCtorEq, walkM, Int.reduceBEq, Int.reduceBNe, Int.reduceLT, Int.reduceLE, decide_true, decide_false, eq_self, Bool.not_true, Bool.not_false, ↓ev_fa, ↓ev_field, ↓ev_load, ↓ev_store, stO_cells, List.all_cons, List.all_nil, Bool.and_self, Bool.and_true, lv, d1]
      exact W.done (EndZ.ret rfl rfl rfl)
    have d1 : decide ((l.length : Int) > 30) = false := decide_eq_false (by omega)
    by_cases hnm : 1000 < nm.length
    · have d2 : decide ((nm.length : Int) > 1000) = true := decide_eq_true (by omega)
      simp only [walk, walkL, evOp, quietOp, farOp, nov, gd, rho, putT, wr, Nat.reduceAdd, Nat.reduceSub, Bool.false_eq_true, if_true, if_false, reduceIte, reduceCtorEq, walkM, Int.reduceBEq, Int.reduceBNe, Int.reduceLT, Int.reduceLE, decide_true, decide_false, eq_self, Bool.not_true, Bool.not_false, ↓ev_fa, ↓ev_field, ↓ev_load, ↓ev_store, stO_cells, List.all_cons, List.all_nil, Bool.and_self, Bool.and_true, lv, d1, d2, ta4]
      exact W.done (EndZ.ret rfl rfl rfl)
    have d2 : decide ((nm.length : Int) > 1000) = false := decide_eq_false (by omega)
    have hn3 : nm.length ≤ 1000 := by omega
    have okc : CallsC cs l := hc.ok (by have := n1.2.1; rwa [List.take_of_length_le (by omega)] at this)
    obtain ⟨s1, u1, ap1, gr1, gl1, gk1⟩ := app_calls (H := [[]]) (s := .nilslice) (d := 39) (fr := 0) (mt := pol.mt 4) (.inl ⟨rfl, rfl, rfl⟩) hv hc.pure.1 hc.pure.2 (rfl) (by decide) rfl (by omega)
    rw [List.nil_append, Nat.zero_add] at gr1
    generalize hw1 : wr [[]] u1 = H1 at *
    have gl1 : H1.length = 1 := gl1
    obtain ⟨s2, u2, ap2, gr2, gl2, gk2⟩ := app_calls (H := H1) (s := s1) (d := 44) (fr := 0) (mt := pol.mt 4) gr1 (IsSl.mk rfl : IsSl 8 (.islice (asksC m nm) 3 true) (asksC m nm) 3) rfl rfl (gk1 44 (by decide) (rfl)) (by omega) rfl (by omega)
    generalize hw2 : wr H1 u2 = H2 at *
    obtain ⟨s3, u3, ap3, gr3, gl3, gk3⟩ := app_calls (H := H2) (s := s2) (d := 52) (fr := 0) (mt := pol.mt 4) gr2 (IsSl.mk rfl : IsSl 8 (.islice (snapC m) 1 true) (snapC m) 1) rfl rfl (gk2 52 (by decide) (gk1 52 (by decide) (rfl))) (by omega) rfl (by omega)
    generalize hw3 : wr H2 u3 = H3 at *
    have l2 := gr2.len (P := Tryz.prog) (u := 22) Tryz.underlying22
    obtain ⟨fr3, hf3, hs3⟩ := gr3.frz
    have okA : CallsC ((cs ++ asksC m nm) ++ snapC m) (l ++ (looksAt m nm ++ [snapAt m])) := by
      rw [← List.append_assoc]
      exact (okc.app (asks_ok m hn3)).app (snapC_ok m)
    have p1 := play_fz fr3 _ _ (by simp only [List.length_append, List.length_cons, looksAt, List.length_nil]; exact hs3) okA
    have nl : ¬ 64 < (l ++ (looksAt m nm ++ [snapAt m])).length := by simp only [List.length_append, List.length_cons, looksAt, List.length_nil]; omega
    simp only [nl, if_false] at p1
    have sm := run_small (l ++ (looksAt m nm ++ [snapAt m])) emptySt 0 emptyOk (by omega)
    rw [runCalls_app, runCalls_app] at p1 sm
    have ok1 := runCalls_ok l emptySt 0 emptyOk
    rw [Nat.zero_add] at ok1
    have rl := runCalls_len l emptySt
    have pB := fun (x : V) (c : List V) (t : List MCall) (h1 : IsSl 8 x c (l ++ t).length) (h2 : CallsC c (l ++ t)) => play_fz x c (l ++ t) h1 h2
    simp only [runCalls_app l] at pB
    generalize (runCalls emptySt l).2 = ra at *
    generalize (runCalls emptySt l).1 = T at *
    have lk : ∀ i, ∀ c ∈ looksAt i nm, isLook c.kind = true := fun i c h => (looks_are i nm c h).1
    rw [looks_stay _ T (lk m)] at p1 sm
    have r0l : (runCalls T (looksAt m nm)).2.length = 3 := by rw [runCalls_len]; rfl
    have lw := copies_law ok1 m (looksAt 0 nm) (lk 0)
    rw [show (looksAt 0 nm).map (·.on m) = looksAt m nm from rfl] at lw
    generalize (runCalls T (looksAt m nm)).2 = R0 at *
    obtain ⟨x1, x2, x3, rfl⟩ : ∃ a b c, R0 = [a, b, c] := by
      match R0, r0l with
      | [a, b, c], _ => exact ⟨a, b, c, rfl⟩
    have m51 : pol.mt 4 51 = false := rfl
    have m81 : pol.mt 4 81 = false := rfl
    have m104 : pol.mt 4 104 = false := rfl
    simp only [snapC] at ap3
    simp only [walk, walkL, evOp, quietOp, farOp, nov, gd, rho, putT, wr, Nat.reduceAdd, Nat.reduceSub, Bool.false_eq_true, if_true, if_false, reduceIte, reduceCtorEq, walkM, Int.reduceBEq, Int.reduceBNe, Int.reduceLT, Int.reduceLE, decide_true, decide_false, eq_self, Bool.not_true, Bool.not_false, ↓ev_fa, ↓ev_field, ↓ev_load, ↓ev_store, stO_cells, List.all_cons, List.all_nil, Bool.and_self, Bool.and_true, lv, d1, d2, ta4, bi_append, ↓ap1, ↓hw1]
    refine W.pcall (asks_fz m nm) rfl rfl rfl ?_
    rintro _ rfl
    simp only [walk, walkL, evOp, quietOp, farOp, nov, gd, rho, putT, wr, Nat.reduceAdd, Nat.reduceSub, Bool.false_eq_true, if_true, if_false, reduceIte, reduceCtorEq, walkM, Int.reduceBEq, Int.reduceBNe, Int.reduceLT, Int.reduceLE, decide_true, decide_false, eq_self, Bool.not_true, Bool.not_false, ↓ev_fa, ↓ev_field, ↓ev_load, ↓ev_store, stO_cells, List.all_cons, List.all_nil, Bool.and_self, Bool.and_true, ta4, splice, zerosN, fillV, walkB, pureL, V.pure, Nat.reduceMul, Nat.reduceLeDiff, Nat.one_ne_zero, and_self, and_true, true_and, List.take_zero, List.drop_succ_cons, List.drop_zero, List.take_succ_cons, List.replicate_one, List.drop_nil, List.take_nil, Nat.le_refl, Nat.zero_add, Nat.zero_mul, Nat.one_mul, Nat.mul_one, Tryz.underlying22, m51, bi_append, ↓ap2, ↓hw2, l2, ↓ap3, ↓hw3]
    refine W.pcall' p1 rfl rfl (frzL_cons (hf3 _ 11) rfl) ?_
    rintro _ ⟨av, os, rfl, ha1, ha2⟩
    have rlen : (ra ++ ([x1, x2, x3] ++ (runCalls T [snapAt m]).2)).length = l.length + 4 := by
      rw [List.length_append, List.length_append, runCalls_len, rl]; rfl
    have la := ha1.len Tryz.underlying25
    have at3 := ha1.at (k := .i64) Tryz.underlying25 sz38 (by decide) (i := ((l.length + 3 : Nat) : Int)) (by omega) (by rw [rlen]; omega)
    have hr := ha2.at_ (i := l.length + 3) (r := (doCall T (snapAt m)).2) (by rw [List.getElem?_append_right (by omega), rl, show l.length + 3 - l.length = 3 by omega]; rfl)
    obtain ⟨r3, r4, r10, er, _⟩ := hr
    injection er with er
    have f0 : os[(l.length + 3) * 10 + 0]? = some (.int .i64 (doCall T (snapAt m)).2.err) := cell_of er (by decide)
    have f1 : os[(l.length + 3) * 10 + 1]? = some (.int .i64 (doCall T (snapAt m)).2.id) := cell_of er (by decide)
    by_cases he : (doCall T (snapAt m)).2.err = 0
    case neg =>
      have b1 : ((doCall T (snapAt m)).2.err != 0) = true := by simpa using he
      simp only [walk, walkL, evOp, quietOp, farOp, nov, gd, rho, putT, wr, Nat.reduceAdd, Nat.reduceSub, Bool.false_eq_true, if_true, if_false, reduceIte, reduceCtorEq, walkM, Int.reduceBEq, Int.reduceBNe, Int.reduceLT, Int.reduceLE, decide_true, decide_false, eq_self, Bool.not_true, Bool.not_false, ↓ev_fa, ↓ev_field, ↓ev_load, ↓ev_store, stO_cells, List.all_cons, List.all_nil, Bool.and_self, Bool.and_true, at3, Int.toNat_natCast, ↓f0, b1, ta4]
      exact W.done (EndZ.ret rfl rfl rfl)
    obtain ⟨sh, S1, S2, hsh, e1, e2, q1, q2, q3⟩ := lw he
    rw [e1] at f0 f1
    have lt := ok1.last1
    have lt0 := ok1.last0
    have ws : (IntKind.i64).wrap (sh + 1) = sh + 1 := by rw [wrap_i64] <;> omega
    obtain ⟨s4, u4, ap4, gr4, gl4, gk4⟩ := app_calls (H := H3) (s := .nilslice) (d := 75) (fr := 0) (mt := pol.mt 4) (.inl ⟨rfl, rfl, rfl⟩) hv hc.pure.1 hc.pure.2 (gk3 75 (by decide) (gk2 75 (by decide) (gk1 75 (by decide) rfl))) (by omega) rfl (by omega)
    rw [List.nil_append, Nat.zero_add] at gr4
    generalize hw4 : wr H3 u4 = H4 at *
    obtain ⟨s5, u5, ap5, gr5, gl5, gk5⟩ := app_calls (H := H4) (s := s4) (d := 82) (fr := 0) (mt := pol.mt 4) gr4 (IsSl.mk rfl : IsSl 8 (.islice (twoC m sh) 2 true) (twoC m sh) 2) rfl rfl (gk4 82 (by decide) (gk3 82 (by decide) (gk2 82 (by decide) (gk1 82 (by decide) rfl)))) (by omega) rfl (by omega)
    generalize hw5 : wr H4 u5 = H5 at *
    obtain ⟨s6, u6, ap6, gr6, gl6, gk6⟩ := app_calls (H := H5) (s := s5) (d := 89) (fr := 0) (mt := pol.mt 4) gr5 (IsSl.mk rfl : IsSl 8 (.islice (asksC sh nm) 3 true) (asksC sh nm) 3) rfl rfl (gk5 89 (by decide) (gk4 89 (by decide) (gk3 89 (by decide) (gk2 89 (by decide) (gk1 89 (by decide) rfl))))) (by omega) rfl (by omega)
    generalize hw6 : wr H5 u6 = H6 at *
    obtain ⟨s7, u7, ap7, gr7, gl7, gk7⟩ := app_calls (H := H6) (s := s6) (d := 95) (fr := 0) (mt := pol.mt 4) gr6 (IsSl.mk rfl : IsSl 8 (.islice (asksC (sh + 1) nm) 3 true) (asksC (sh + 1) nm) 3) rfl rfl (gk6 95 (by decide) (gk5 95 (by decide) (gk4 95 (by decide) (gk3 95 (by decide) (gk2 95 (by decide) (gk1 95 (by decide) rfl)))))) (by omega) rfl (by omega)
    generalize hw7 : wr H6 u7 = H7 at *
    obtain ⟨s8, u8, ap8, gr8, gl8, gk8⟩ := app_calls (H := H7) (s := s7) (d := 105) (fr := 0) (mt := pol.mt 4) gr7 (IsSl.mk rfl : IsSl 8 (.islice (threeC m nm) 3 true) (threeC m nm) 3) rfl rfl (gk7 105 (by decide) (gk6 105 (by decide) (gk5 105 (by decide) (gk4 105 (by decide) (gk3 105 (by decide) (gk2 105 (by decide) (gk1 105 (by decide) rfl))))))) (by omega) rfl (by omega)
    generalize hw8 : wr H7 u8 = H8 at *
    obtain ⟨s9, u9, ap9, gr9, gl9, gk9⟩ := app_calls (H := H8) (s := s8) (d := 112) (fr := 0) (mt := pol.mt 4) gr8 (IsSl.mk rfl : IsSl 8 (.islice (asksC m nm) 3 true) (asksC m nm) 3) rfl rfl (gk8 112 (by decide) (gk7 112 (by decide) (gk6 112 (by decide) (gk5 112 (by decide) (gk4 112 (by decide) (gk3 112 (by decide) (gk2 112 (by decide) (gk1 112 (by decide) rfl)))))))) (by omega) rfl (by omega)
    generalize hw9 : wr H8 u9 = H9 at *
    have l5 := gr5.len (P := Tryz.prog) (u := 22) Tryz.underlying22
    have l8 := gr8.len (P := Tryz.prog) (u := 22) Tryz.underlying22
    obtain ⟨fr9, hf9, hs9⟩ := gr9.frz
    have okB : CallsC (((((cs ++ twoC m sh) ++ asksC sh nm) ++ asksC (sh + 1) nm) ++ threeC m nm) ++ asksC m nm) (l ++ (snapAt m :: cloneAt sh :: (looksAt sh nm ++ (looksAt (sh + 1) nm ++ (unlinkAt m nm :: makeZ m :: rollAt m :: looksAt m nm))))) := by
      have := ((((okc.app (twoC_ok m sh)).app (asks_ok sh hn3)).app (asks_ok (sh + 1) hn3)).app (threeC_ok m hn3)).app (asks_ok m hn3)
      simpa using this
    have p2 := pB fr9 _ _ (by simp only [List.length_append, List.length_cons, looksAt, List.length_nil]; exact hs9) okB
    have nl2 : ¬ 64 < (l ++ (snapAt m :: cloneAt sh :: (looksAt sh nm ++ (looksAt (sh + 1) nm ++ (unlinkAt m nm :: makeZ m :: rollAt m :: looksAt m nm))))).length := by simp only [List.length_append, List.length_cons, looksAt, List.length_nil]; omega
    simp only [nl2, if_false] at p2
    have q3' := q3 (unlinkAt m nm) (makeZ m) rfl rfl rfl rfl
    rw [show (looksAt 0 nm).map (·.on sh) = looksAt sh nm from rfl] at q1
    rw [show (looksAt 0 nm).map (·.on (sh + 1)) = looksAt (sh + 1) nm from rfl] at q2
    have erB : (runCalls T (snapAt m :: cloneAt sh :: (looksAt sh nm ++ (looksAt (sh + 1) nm ++ (unlinkAt m nm :: makeZ m :: rollAt m :: looksAt m nm))))).2 =
        { fail 0 with id := sh } :: { fail 0 with id := sh + 1 } :: ([x1, x2, x3] ++ ([x1, x2, x3] ++ ((doCall S2 (unlinkAt m nm)).2 :: (doCall (doCall S2 (unlinkAt m nm)).1 (makeZ m)).2 :: (doCall (doCall (doCall S2 (unlinkAt m nm)).1 (makeZ m)).1 (rollAt m)).2 :: [x1, x2, x3]))) := by
      simp only [runCalls, e1, e2, runCalls_app, q1, q2, looks_stay _ S2 (lk sh), looks_stay _ S2 (lk (sh + 1)), q3']
    rw [erB] at p2
    generalize (doCall S2 (unlinkAt m nm)).2 = y1 at *
    generalize (doCall (doCall S2 (unlinkAt m nm)).1 (makeZ m)).2 = y2 at *
    generalize (doCall (doCall (doCall S2 (unlinkAt m nm)).1 (makeZ m)).1 (rollAt m)).2 = y3 at *
    have z0 : ((0 : Int) != 0) = false := rfl
    have zi : (fail 0).err = 0 := rfl
    simp only [zi] at f0
    simp only [twoC] at ap5
    simp only [threeC] at ap8
    simp only [walk, walkL, evOp, quietOp, farOp, nov, gd, rho, putT, wr, Nat.reduceAdd, Nat.reduceSub, Bool.false_eq_true, if_true, if_false, reduceIte, reduceCtorEq, walkM, Int.reduceBEq, Int.reduceBNe, Int.reduceLT, Int.reduceLE, decide_true, decide_false, eq_self, Bool.not_true, Bool.not_false, ↓ev_fa, ↓ev_field, ↓ev_load, ↓ev_store, stO_cells, List.all_cons, List.all_nil, Bool.and_self, Bool.and_true, at3, Int.toNat_natCast, ↓f0, ↓f1, z0, ta4, splice, zerosN, fillV, walkB, pureL, V.pure, Nat.reduceMul, Nat.reduceLeDiff, Nat.one_ne_zero, and_self, and_true, true_and, List.take_zero, List.drop_succ_cons, List.drop_zero, List.take_succ_cons, List.replicate_one, List.drop_nil, List.take_nil, Nat.le_refl, Nat.zero_add, Nat.zero_mul, Nat.one_mul, Nat.mul_one, Tryz.underlying22, m81, bi_append, ↓ap4, ↓hw4, ↓ap5, ↓hw5, l5]
    refine W.pcall (asks_fz sh nm) rfl rfl rfl ?_
    rintro _ rfl
    simp only [walk, walkL, evOp, quietOp, farOp, nov, gd, rho, putT, wr, Nat.reduceAdd, Nat.reduceSub, Bool.false_eq_true, if_true, if_false, reduceIte, reduceCtorEq, walkM, Int.reduceBEq, Int.reduceBNe, Int.reduceLT, Int.reduceLE, decide_true, decide_false, eq_self, Bool.not_true, Bool.not_false, ↓ev_fa, ↓ev_field, ↓ev_load, ↓ev_store, stO_cells, List.all_cons, List.all_nil, Bool.and_self, Bool.and_true, bi_append, ↓ap6, ↓hw6, ws]
    refine W.pcall (asks_fz (sh + 1) nm) rfl rfl rfl ?_
    rintro _ rfl
    simp only [walk, walkL, evOp, quietOp, farOp, nov, gd, rho, putT, wr, Nat.reduceAdd, Nat.reduceSub, Bool.false_eq_true, if_true, if_false, reduceIte, reduceCtorEq, walkM, Int.reduceBEq, Int.reduceBNe, Int.reduceLT, Int.reduceLE, decide_true, decide_false, eq_self, Bool.not_true, Bool.not_false, ↓ev_fa, ↓ev_field, ↓ev_load, ↓ev_store, stO_cells, List.all_cons, List.all_nil, Bool.and_self, Bool.and_true, bi_append, ↓ap7, ↓hw7, ta4, splice, zerosN, fillV, walkB, pureL, V.pure, Nat.reduceMul, Nat.reduceLeDiff, Nat.one_ne_zero, and_self, and_true, true_and, List.take_zero, List.drop_succ_cons, List.drop_zero, List.take_succ_cons, List.replicate_one, List.drop_nil, List.take_nil, Nat.le_refl, Nat.zero_add, Nat.zero_mul, Nat.one_mul, Nat.mul_one, Tryz.underlying22, m104, ↓ap8, ↓hw8, l8]
    refine W.pcall (asks_fz m nm) rfl rfl rfl ?_
    rintro _ rfl
    simp only [walk, walkL, evOp, quietOp, farOp, nov, gd, rho, putT, wr, Nat.reduceAdd, Nat.reduceSub, Bool.false_eq_true, if_true, if_false, reduceIte, reduceCtorEq, walkM, Int.reduceBEq, Int.reduceBNe, Int.reduceLT, Int.reduceLE, decide_true, decide_false, eq_self, Bool.not_true, Bool.not_false, ↓ev_fa, ↓ev_field, ↓ev_load, ↓ev_store, stO_cells, List.all_cons, List.all_nil, Bool.and_self, Bool.and_true, bi_append, ↓ap9, ↓hw9]
    refine W.pcall' p2 rfl rfl (frzL_cons (hf9 _ 11) rfl) ?_
    rintro _ ⟨bv, os2, rfl, hb1, hb2⟩
    generalize hRB : ra ++ ({ fail 0 with id := sh } :: { fail 0 with id := sh + 1 } :: ([x1, x2, x3] ++ ([x1, x2, x3] ++ (y1 :: y2 :: y3 :: [x1, x2, x3])))) = RB at *
    have rlenB : RB.length = l.length + 14 := by rw [← hRB, List.length_append, rl]; rfl
    have atB := hb1.at (k := .i64) Tryz.underlying25 sz38 (by decide) (i := ((l.length + 1 : Nat) : Int)) (by omega) (by rw [rlenB]; omega)
    have hrB := hb2.at_ (i := l.length + 1) (r := { fail 0 with id := sh + 1 }) (by rw [← hRB, List.getElem?_append_right (by omega), rl, show l.length + 1 - l.length = 1 by omega]; rfl)
    obtain ⟨t3, t4, t10, erB2, _⟩ := hrB
    injection erB2 with erB2
    have fB : os2[(l.length + 1) * 10 + 1]? = some (.int .i64 (sh + 1)) := cell_of erB2 (by decide)
    have wA : (IntKind.i64).wrap (((l.length + 3 : Nat) : Int) - 3) = (l.length : Int) := by rw [wrap_i64] <;> omega
    have wB : (IntKind.i64).wrap (((l.length + 2 : Nat) : Int) - 1) = ((l.length + 1 : Nat) : Int) := by rw [wrap_i64] <;> omega
    have wC : (IntKind.i64).wrap (((l.length + 2 : Nat) : Int) + 3) = ((l.length + 5 : Nat) : Int) := by rw [wrap_i64] <;> omega
    have wD : (IntKind.i64).wrap (((l.length + 2 : Nat) : Int) + 6) = ((l.length + 8 : Nat) : Int) := by rw [wrap_i64] <;> omega
    obtain ⟨wax, hax1, hax2⟩ := IsSl.cut (P := Tryz.prog) (u := 25) (e := 38) Tryz.underlying25 sz38 ha1 (some ((l.length : Nat) : Int)) (some ((l.length + 3 : Nat) : Int)) (by simp only [Option.getD_some]; omega) (by simp only [Option.getD_some]; omega) (by simp only [Option.getD_some, rlen]; omega)
    obtain ⟨wbx, hbx1, hbx2⟩ := IsSl.cut (P := Tryz.prog) (u := 25) (e := 38) Tryz.underlying25 sz38 hb1 (some ((l.length + 2 : Nat) : Int)) (some ((l.length + 5 : Nat) : Int)) (by simp only [Option.getD_some]; omega) (by simp only [Option.getD_some]; omega) (by simp only [Option.getD_some, rlenB]; omega)
    obtain ⟨wcx, hcx1, hcx2⟩ := IsSl.cut (P := Tryz.prog) (u := 25) (e := 38) Tryz.underlying25 sz38 hb1 (some ((l.length + 5 : Nat) : Int)) (some ((l.length + 8 : Nat) : Int)) (by simp only [Option.getD_some]; omega) (by simp only [Option.getD_some]; omega) (by simp only [Option.getD_some, rlenB]; omega)
    obtain ⟨wdx, hdx1, hdx2⟩ := IsSl.cut (P := Tryz.prog) (u := 25) (e := 38) Tryz.underlying25 sz38 hb1 (some ((l.length + 11 : Nat) : Int)) none (by simp only [Option.getD_some]; omega) (by simp only [Option.getD_some, Option.getD_none, rlenB]; omega) (by simp)
    simp only [Option.map_some, Option.map_none, Option.getD_some, Option.getD_none, Int.toNat_natCast] at hax1 hax2 hbx1 hbx2 hcx1 hcx2 hdx1 hdx2
    rw [show l.length + 3 - l.length = 3 by omega] at hax2
    rw [show l.length + 5 - (l.length + 2) = 3 by omega] at hbx2
    rw [show l.length + 8 - (l.length + 5) = 3 by omega] at hcx2
    rw [rlenB, show l.length + 14 - (l.length + 11) = 3 by omega] at hdx2
    subst hRB
    have rax : RepsC ((os.drop (l.length * 10)).take (3 * 10)) [x1, x2, x3] := by
      have q : RepsC os (ra ++ ([x1, x2, x3] ++ (runCalls T [snapAt m]).2)) := ha2
      have := (q.drop).take
      rwa [rl] at this
    have rbx : RepsC ((os2.drop ((l.length + 2) * 10)).take (3 * 10)) [x1, x2, x3] := by
      have q : RepsC os2 ((ra ++ [{ fail 0 with id := sh }, { fail 0 with id := sh + 1 }]) ++ ([x1, x2, x3] ++ ([x1, x2, x3] ++ (y1 :: y2 :: y3 :: [x1, x2, x3])))) := by simpa using hb2
      have := (q.drop).take
      rwa [List.length_append, rl] at this
    have rcx : RepsC ((os2.drop ((l.length + 5) * 10)).take (3 * 10)) [x1, x2, x3] := by
      have q : RepsC os2 ((ra ++ [{ fail 0 with id := sh }, { fail 0 with id := sh + 1 }, x1, x2, x3]) ++ ([x1, x2, x3] ++ (y1 :: y2 :: y3 :: [x1, x2, x3]))) := by simpa using hb2
      have := (q.drop).take
      rwa [List.length_append, rl] at this
    have rdx : RepsC ((os2.drop ((l.length + 11) * 10)).take (3 * 10)) [x1, x2, x3] := by
      have q : RepsC os2 ((ra ++ [{ fail 0 with id := sh }, { fail 0 with id := sh + 1 }, x1, x2, x3, x1, x2, x3, y1, y2, y3]) ++ ([x1, x2, x3] ++ [])) := by simpa using hb2
      have := (q.drop).take
      rwa [List.length_append, rl] at this
    have smx : ∀ r ∈ [x1, x2, x3], SmallR r := fun r hr => sm r (List.mem_append_right _ (List.mem_append_left _ hr))
    have bq : ((sh + 1) == (sh + 1)) = true := by simp
    simp only [walk, walkL, evOp, quietOp, farOp, nov, gd, rho, putT, wr, Nat.reduceAdd, Nat.reduceSub, Bool.false_eq_true, if_true, if_false, reduceIte, reduceCtorEq, walkM, Int.reduceBEq, Int.reduceBNe, Int.reduceLT, Int.reduceLE, decide_true, decide_false, eq_self, Bool.not_true, Bool.not_false, ↓ev_fa, ↓ev_field, ↓ev_load, ↓ev_store, stO_cells, List.all_cons, List.all_nil, Bool.and_self, Bool.and_true, wA, wB, wC, wD, ws, atB, Int.toNat_natCast, ↓fB, bq, ↓hax1, ↓hbx1, ↓hcx1, ↓hdx1, ta4]
    refine W.pcall (sameAll_fz wax wbx [x1, x2, x3] _ _ hax2 hbx2 rax rbx smx (by simp)) rfl rfl (frzL_cons (hax2.frz _) (frzL_cons (hbx2.frz _) rfl)) ?_
    rintro _ rfl
    simp only [walk, walkL, evOp, quietOp, farOp, nov, gd, rho, putT, wr, Nat.reduceAdd, Nat.reduceSub, Bool.false_eq_true, if_true, if_false, reduceIte, reduceCtorEq, walkM, Int.reduceBEq, Int.reduceBNe, Int.reduceLT, Int.reduceLE, decide_true, decide_false, eq_self, Bool.not_true, Bool.not_false, ↓ev_fa, ↓ev_field, ↓ev_load, ↓ev_store, stO_cells, List.all_cons, List.all_nil, Bool.and_self, Bool.and_true, wA, wB, wC, wD, ↓hcx1, ↓hdx1, ta4]
    refine W.pcall (sameAll_fz wax wcx [x1, x2, x3] _ _ hax2 hcx2 rax rcx smx (by simp)) rfl rfl (frzL_cons (hax2.frz _) (frzL_cons (hcx2.frz _) rfl)) ?_
    rintro _ rfl
    simp only [walk, walkL, evOp, quietOp, farOp, nov, gd, rho, putT, wr, Nat.reduceAdd, Nat.reduceSub, Bool.false_eq_true, if_true, if_false, reduceIte, reduceCtorEq, walkM, Int.reduceBEq, Int.reduceBNe, Int.reduceLT, Int.reduceLE, decide_true, decide_false, eq_self, Bool.not_true, Bool.not_false, ↓ev_fa, ↓ev_field, ↓ev_load, ↓ev_store, stO_cells, List.all_cons, List.all_nil, Bool.and_self, Bool.and_true, ↓hdx1, ta4]
    refine W.pcall (sameAll_fz wax wdx [x1, x2, x3] _ _ hax2 hdx2 rax rdx smx (by simp)) rfl rfl (frzL_cons (hax2.frz _) (frzL_cons (hdx2.frz _) rfl)) ?_
    rintro _ rfl
    simp only [walk, walkL, evOp, quietOp, farOp, nov, gd, rho, putT, wr, Nat.reduceAdd, Nat.reduceSub, Bool.false_eq_true, if_true, if_false, reduceIte, reduceCtorEq, walkM, Int.reduceBEq, Int.reduceBNe, Int.reduceLT, Int.reduceLE, decide_true, decide_false, eq_self, Bool.not_true, Bool.not_false, ↓ev_fa, ↓ev_field, ↓ev_load, ↓ev_store, stO_cells, List.all_cons, List.all_nil, Bool.and_self, Bool.and_true]
    exact W.done (EndZ.ret rfl rfl rfl)
end Go.Proofs.YtebbgmeomkjibaaGreat
end
