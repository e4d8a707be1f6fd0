/- This file holds in one the texts ZO42; each says at its head what it proves. -/
import Derived.Test.YtebbgmeomkjibaaGreatI49
import Derived.Test.YtebbgmeomkjibaaGreatI54
import Derived.Test.YtebbgmeomkjibaaGreatI55
set_option linter.unusedSimpArgs false
set_option linter.unusedVariables false
section
/- model: asks, and ModelKeys. -/
set_option maxRecDepth 100000
namespace Go.Proofs.YtebbgmeomkjibaaGreat
open Go.AM Go.Mod

attribute [local irreducible] U W

def withP (c : MCall) : MCall := { c with text := pP }
theorem app1_nil {H : Heap} {x : V} {ds : List V} {mt : Nat → Bool} (hx : IsSl 8 x ds 1) (hp : pureL ds = true) (hd : hget H 0 46 = none) (hm : mt 46 = false) :
    appendV Tryz.prog mt 0 (hget H) (some 46) 22 22 .nilslice x = some (.val (.gslice 0 46 ds 1 8) (some (0, 46, .grow 1))) := by
  rw [app_nil Tryz.underlying22 sz32 by_call zc32 rfl Tryz.underlying22 (IsSl.sc hx) (by omega) (roomy_of (by omega) (by omega)), grown_im hm hp hd]
theorem app1_more {H : Heap} {x : V} {cs ds : List V} {n : Nat} {mt : Nat → Bool} (hg : hget H 0 46 = some (.grow n)) (hc : cs.length = n * 8) (hx : IsSl 8 x ds 1) (hp : pureL ds = true) (hs : ds.all V.scalar = true) (hn : n ≤ 900) :
    appendV Tryz.prog mt 0 (hget H) (some 46) 22 22 (.gslice 0 46 cs n 8) x = some (.val (.gslice 0 46 (cs ++ ds) (n + 1) 8) (some (0, 46, .grow (n + 1)))) :=
  app_more Tryz.underlying22 sz32 by_call zc32 rfl Tryz.underlying22 (IsSl.sc hx) (by omega) (roomy_of (by omega) (by omega)) hp hs hg

theorem keys_law2 (v : V) (cs : List V) (l : List MCall) (m : Int) (nm : Bytes) (hv : IsSl 8 v cs l.length) (hc : CallsR cs l) : Fz Tryz.prog pol 5 [v, .int .i64 m, .str nm] fun r => r = .bool true := by
  refine fz_of Tryz.func5 rfl ?_
  have lv := hv.len Tryz.underlying22
  simp only [walk, walkL, evOp, quietOp, farOp, nov, gd, rho, putT, wr, Nat.reduceAdd, Nat.reduceSub, Bool.false_eq_true, if_true, if_false, reduceIte, reduceCtorEq, walkM, Int.reduceBEq, Int.reduceBNe, Int.reduceLT, Int.reduceLE, decide_true, decide_false, eq_self, Bool.not_true, Bool.not_false, ↓ev_fa, ↓ev_field, ↓ev_load, ↓ev_store, stO_cells, List.all_cons, List.all_nil, Bool.and_self, Bool.and_true, Tryz.ntmps5]
  refine W.pcall alive_fz rfl rfl rfl ?_
  rintro _ rfl
  simp only [walk, walkL, evOp, quietOp, farOp, nov, gd, rho, putT, wr, Nat.reduceAdd, Nat.reduceSub, Bool.false_eq_true, if_true, if_false, reduceIte, reduceCtorEq, walkM, Int.reduceBEq, Int.reduceBNe, Int.reduceLT, Int.reduceLE, decide_true, decide_false, eq_self, Bool.not_true, Bool.not_false, ↓ev_fa, ↓ev_field, ↓ev_load, ↓ev_store, stO_cells, List.all_cons, List.all_nil, Bool.and_self, Bool.and_true]
  refine W.pcall (great_fz v cs l hv hc 30 (by decide)) rfl rfl (frzL_cons (hv.frz _) rfl) ?_
  rintro _ rfl
  cases g1 : greatB l 30 with
  | true =>
    simp only [walk, walkL, evOp, quietOp, farOp, nov, gd, rho, putT, wr, Nat.reduceAdd, Nat.reduceSub, Bool.false_eq_true, if_true, if_false, reduceIte, reduceCtorEq, walkM, Int.reduceBEq, Int.reduceBNe, Int.reduceLT, Int.reduceLE, decide_true, decide_false, eq_self, Bool.not_true, Bool.not_false, ↓ev_fa, ↓ev_field, ↓ev_load, ↓ev_store, stO_cells, List.all_cons, List.all_nil, Bool.and_self, Bool.and_true]
    exact W.done (EndZ.ret rfl rfl rfl)
  | false =>
    have n1 := great_no g1
    by_cases h40 : 30 < l.length
    · have d1 : decide ((l.length : Int) > 30) = true := decide_eq_true (by omega)
      simp only [walk, walkL, evOp, quietOp, farOp, nov, gd, rho, putT, wr, Nat.reduceAdd, Nat.reduceSub, Bool.false_eq_true, if_true, if_false, reduceIte, reduceCtorEq, walkM, Int.reduceBEq, Int.reduceBNe, Int.reduceLT, Int.reduceLE, decide_true, decide_false, eq_self, Bool.not_true, Bool.not_false, ↓ev_fa, ↓ev_field, ↓ev_load, ↓ev_store, stO_cells, List.all_cons, List.all_nil, Bool.and_self, Bool.and_true, lv, d1]
      exact W.done (EndZ.ret rfl rfl rfl)
    have d1 : decide ((l.length : Int) > 30) = false := decide_eq_false (by omega)
    by_cases hnm : 1000 < nm.length
    · have d2 : decide ((nm.length : Int) > 1000) = true := decide_eq_true (by omega)
      simp only [walk, walkL, evOp, quietOp, farOp, nov, gd, rho, putT, wr, Nat.reduceAdd, Nat.reduceSub, Bool.false_eq_true, if_true, if_false, reduceIte, reduceCtorEq, walkM, Int.reduceBEq, Int.reduceBNe, Int.reduceLT, Int.reduceLE, decide_true, decide_false, eq_self, Bool.not_true, Bool.not_false, ↓ev_fa, ↓ev_field, ↓ev_load, ↓ev_store, stO_cells, List.all_cons, List.all_nil, Bool.and_self, Bool.and_true, lv, d1, d2, ta5]
      exact W.done (EndZ.ret rfl rfl rfl)
    have d2 : decide ((nm.length : Int) > 1000) = false := decide_eq_false (by omega)
    have okc : CallsC cs l := hc.ok (by have := n1.2.1; rwa [List.take_of_length_le (by omega)] at this)
    simp only [walk, walkL, evOp, quietOp, farOp, nov, gd, rho, putT, wr, Nat.reduceAdd, Nat.reduceSub, Bool.false_eq_true, if_true, if_false, reduceIte, reduceCtorEq, walkM, Int.reduceBEq, Int.reduceBNe, Int.reduceLT, Int.reduceLE, decide_true, decide_false, eq_self, Bool.not_true, Bool.not_false, ↓ev_fa, ↓ev_field, ↓ev_load, ↓ev_store, stO_cells, List.all_cons, List.all_nil, Bool.and_self, Bool.and_true, lv, d1, d2, ta5]
    refine W.ul ?_
    refine W.loop (fun (i : Nat) t H => ∃ sv c1, maskT [0, 1, 2, 8, 9] t 0 = st5_6 v (.int .i64 m) (.str nm) sv (.int .i64 i) ∧ i ≤ l.length ∧ ((i = 0 ∧ sv = .nilslice ∧ c1 = [] ∧ H = [[]]) ∨ (0 < i ∧ sv = .gslice 0 46 c1 i 8 ∧ c1.length = i * 8 ∧ ∃ xs, H = [[(10, .cells xs), (46, .grow i)]])) ∧
      CallsC c1 ((l.take i).map withP)) (fun i => l.length - i) ?_ 0
      ⟨.nilslice, [], rfl, by omega, .inl ⟨rfl, rfl, rfl, rfl⟩, rfl⟩ rfl
    rintro i t H ⟨sv, c1, ht, hi, hd, hcc⟩
    have vr : v.refs (fun f s => f == 0 && [10].contains s) = false := hv.noRefs _
    by_cases h : i < l.length
    case neg =>
      have e : i = l.length := by omega
      obtain ⟨H1, hf, gr0, gl0, gn0⟩ : ∃ H1, forget pol 5 0 6 t H = some (maskT [0, 1, 2, 8, 9] t 0, H1) ∧ Gr H1 sv c1 i 8 ∧ H1.length = 1 ∧ ∀ e, 50 < e → hget H1 0 e = none := by
        rcases hd with ⟨rfl, rfl, rfl, rfl⟩ | ⟨h0, rfl, hl1, xs, rfl⟩
        · refine ⟨[[]], (forget_drop (kt := [0, 1, 2, 8, 9]) (ds := [10]) rfl ?_ rfl).trans rfl, .inl ⟨rfl, rfl, rfl⟩, rfl, fun _ _ => rfl⟩
          rw [ht]
          simp only [st5_6, refsL, V.refs, vr]; rfl
        · refine ⟨[[(46, .grow i)]], (forget_drop (kt := [0, 1, 2, 8, 9]) (ds := [10]) rfl ?_ rfl).trans rfl, .inr ⟨0, 46, rfl, rfl, hl1⟩, rfl, fun e he => ?_⟩
          · rw [ht]
            simp only [st5_6, refsL, V.refs, vr]; rfl
          · simp only [hget, fget, List.getElem?_cons_zero]; rw [if_neg (by omega)]
      refine ⟨_, _, hf, ?_⟩
      rw [ht]
      simp only [st5_6]
      subst e
      have c1' : decide ((l.length : Int) < l.length) = false := decide_eq_false (by omega)
      rw [List.take_length] at hcc
      have hgl0 := gl0
      have is1 : IsSl 8 (.islice (loadC m) 1 true) (loadC m) 1 := IsSl.mk rfl
      obtain ⟨s1, u1, ap1, gr1, gl1, gk1⟩ := app_calls (H := H1) (s := sv) (d := 51) (fr := 0) (mt := pol.mt 5) gr0 is1 rfl rfl (gn0 51 (by omega)) (by omega) rfl (by omega)
      generalize hw1 : wr H1 u1 = H2 at *
      have is2 : IsSl 8 (.islice (asksC m nm) 3 true) (asksC m nm) 3 := IsSl.mk rfl
      obtain ⟨s2, u2, ap2, gr2, gl2, gk2⟩ := app_calls (H := H2) (s := s1) (d := 58) (fr := 0) (mt := pol.mt 5) gr1 is2 rfl rfl (gk1 58 (by decide) (gn0 58 (by omega))) (by omega) rfl (by omega)
      generalize hw2 : wr H2 u2 = H3 at *
      have is3 : IsSl 8 (.islice (unloadC m) 1 true) (unloadC m) 1 := IsSl.mk rfl
      obtain ⟨s3, u3, ap3, gr3, gl3, gk3⟩ := app_calls (H := H3) (s := s2) (d := 63) (fr := 0) (mt := pol.mt 5) gr2 is3 rfl rfl (gk2 63 (by decide) (gk1 63 (by decide) (gn0 63 (by omega)))) (by omega) rfl (by omega)
      generalize hw3 : wr H3 u3 = H4 at *
      have is4 : IsSl 8 (.islice (asksC m nm) 3 true) (asksC m nm) 3 := IsSl.mk rfl
      obtain ⟨s4, u4, ap4, gr4, gl4, gk4⟩ := app_calls (H := H4) (s := s3) (d := 68) (fr := 0) (mt := pol.mt 5) gr3 is4 rfl rfl (gk3 68 (by decide) (gk2 68 (by decide) (gk1 68 (by decide) (gn0 68 (by omega))))) (by omega) rfl (by omega)
      generalize hw4 : wr H4 u4 = H5 at *
      have is5 : IsSl 8 (.islice (loadC m) 1 true) (loadC m) 1 := IsSl.mk rfl
      obtain ⟨s5, u5, ap5, gr5, gl5, gk5⟩ := app_calls (H := H5) (s := s4) (d := 73) (fr := 0) (mt := pol.mt 5) gr4 is5 rfl rfl (gk4 73 (by decide) (gk3 73 (by decide) (gk2 73 (by decide) (gk1 73 (by decide) (gn0 73 (by omega)))))) (by omega) rfl (by omega)
      generalize hw5 : wr H5 u5 = H6 at *
      have is6 : IsSl 8 (.islice (asksC m nm) 3 true) (asksC m nm) 3 := IsSl.mk rfl
      obtain ⟨s6, u6, ap6, gr6, gl6, gk6⟩ := app_calls (H := H6) (s := s5) (d := 78) (fr := 0) (mt := pol.mt 5) gr5 is6 rfl rfl (gk5 78 (by decide) (gk4 78 (by decide) (gk3 78 (by decide) (gk2 78 (by decide) (gk1 78 (by decide) (gn0 78 (by omega))))))) (by omega) rfl (by omega)
      generalize hw6 : wr H6 u6 = H7 at *
      have l1 := gr1.len (P := Tryz.prog) (u := 22) Tryz.underlying22
      obtain ⟨fr6, hf6, hs6⟩ := gr6.frz
      have okall : CallsC (((((((c1 ++ loadC m) ++ asksC m nm) ++ unloadC m) ++ asksC m nm) ++ loadC m) ++ asksC m nm)) (l.map withP ++ [loadAt m] ++ looksAt m nm ++ [unloadAt m] ++ looksAt m nm ++ [loadAt m] ++ looksAt m nm) :=
        (((((hcc.app (load_ok m)).app (asks_ok m (by omega))).app (unload_ok m)).app (asks_ok m (by omega))).app (load_ok m)).app (asks_ok m (by omega))
      have el : l.map withP ++ [loadAt m] ++ looksAt m nm ++ [unloadAt m] ++ looksAt m nm ++ [loadAt m] ++ looksAt m nm = l.map withP ++ (loadAt m :: (looksAt m nm ++ (unloadAt m :: (looksAt m nm ++ (loadAt m :: looksAt m nm))))) := by simp
      rw [el] at okall
      have p1 := play_fz fr6 _ _ (by simp only [List.length_append, List.length_cons, List.length_map, looksAt, List.length_nil]; exact hs6) okall
      have nl : ¬ 64 < (l.map withP ++ (loadAt m :: (looksAt m nm ++ (unloadAt m :: (looksAt m nm ++ (loadAt m :: looksAt m nm)))))).length := by
        simp only [List.length_append, List.length_cons, List.length_map, looksAt, List.length_nil]; omega
      simp only [nl, if_false] at p1
      have sm := run_small (l.map withP ++ (loadAt m :: (looksAt m nm ++ (unloadAt m :: (looksAt m nm ++ (loadAt m :: looksAt m nm)))))) emptySt 0 emptyOk (by omega)
      rw [runCalls_app] at p1 sm
      have ok1 := runCalls_ok (l.map withP) emptySt 0 emptyOk
      have kk := oneKey_run (l.map withP) emptySt 0 emptyOk (fun k hk => by cases hk) (fun c hc => by obtain ⟨d, _, rfl⟩ := List.mem_map.1 hc; rfl)
      have rl := runCalls_len (l.map withP) emptySt
      rw [List.length_map] at rl
      generalize (runCalls emptySt (l.map withP)).2 = ra at *
      generalize (runCalls emptySt (l.map withP)).1 = T at *
      have kl := keys_law ok1 kk m (looksAt m nm) (looks_are m nm)
      have w1 : (IntKind.i64).wrap (((l.length + 1 : Nat) : Int) - 1) = ((l.length + 0 : Nat) : Int) := by rw [wrap_i64] <;> omega
      have w3 : (IntKind.i64).wrap (((l.length + 1 : Nat) : Int) + 3) = ((l.length + 4 : Nat) : Int) := by rw [wrap_i64] <;> omega
      have w4 : (IntKind.i64).wrap (((l.length + 1 : Nat) : Int) + 4) = ((l.length + 5 : Nat) : Int) := by rw [wrap_i64] <;> omega
      have w5 : (IntKind.i64).wrap (((l.length + 1 : Nat) : Int) + 5) = ((l.length + 6 : Nat) : Int) := by rw [wrap_i64] <;> omega
      have w6 : (IntKind.i64).wrap (((l.length + 1 : Nat) : Int) + 6) = ((l.length + 7 : Nat) : Int) := by rw [wrap_i64] <;> omega
      have w7 : (IntKind.i64).wrap (((l.length + 1 : Nat) : Int) + 7) = ((l.length + 8 : Nat) : Int) := by rw [wrap_i64] <;> omega
      have w8 : (IntKind.i64).wrap (((l.length + 1 : Nat) : Int) + 8) = ((l.length + 9 : Nat) : Int) := by rw [wrap_i64] <;> omega
      simp only [loadC] at ap1 ap5
      simp only [unloadC] at ap3
      have m50 : pol.mt 5 50 = false := rfl
      have m62 : pol.mt 5 62 = false := rfl
      have m72 : pol.mt 5 72 = false := rfl
      simp only [walk, walkL, evOp, quietOp, farOp, nov, gd, rho, putT, wr, Nat.reduceAdd, Nat.reduceSub, Bool.false_eq_true, if_true, if_false, reduceIte, reduceCtorEq, walkM, Int.reduceBEq, Int.reduceBNe, Int.reduceLT, Int.reduceLE, decide_true, decide_false, eq_self, Bool.not_true, Bool.not_false, ↓ev_fa, ↓ev_field, ↓ev_load, ↓ev_store, stO_cells, List.all_cons, List.all_nil, Bool.and_self, Bool.and_true, lv, c1']
      refine W.done ?_
      simp only [walk, walkL, evOp, quietOp, farOp, nov, gd, rho, putT, wr, Nat.reduceAdd, Nat.reduceSub, Bool.false_eq_true, if_true, if_false, reduceIte, reduceCtorEq, walkM, Int.reduceBEq, Int.reduceBNe, Int.reduceLT, Int.reduceLE, decide_true, decide_false, eq_self, Bool.not_true, Bool.not_false, ↓ev_fa, ↓ev_field, ↓ev_load, ↓ev_store, stO_cells, List.all_cons, List.all_nil, Bool.and_self, Bool.and_true, ta5, splice, zerosN, fillV, walkB, pureL, V.pure, Nat.reduceMul, Nat.reduceLeDiff, Nat.one_ne_zero, and_self, and_true, true_and, List.take_zero, List.drop_succ_cons, List.drop_zero, List.take_succ_cons, List.replicate_one, List.drop_nil, List.take_nil, Nat.le_refl, Nat.zero_add, Nat.zero_mul, Nat.one_mul, Nat.mul_one, Tryz.underlying22, m50, bi_append, ↓ap1, ↓hw1, l1]
      refine W.pcall (asks_fz m nm) rfl rfl rfl ?_
      rintro _ rfl
      simp only [walk, walkL, evOp, quietOp, farOp, nov, gd, rho, putT, wr, Nat.reduceAdd, Nat.reduceSub, Bool.false_eq_true, if_true, if_false, reduceIte, reduceCtorEq, walkM, Int.reduceBEq, Int.reduceBNe, Int.reduceLT, Int.reduceLE, decide_true, decide_false, eq_self, Bool.not_true, Bool.not_false, ↓ev_fa, ↓ev_field, ↓ev_load, ↓ev_store, stO_cells, List.all_cons, List.all_nil, Bool.and_self, Bool.and_true, ta5, splice, zerosN, fillV, walkB, pureL, V.pure, Nat.reduceMul, Nat.reduceLeDiff, Nat.one_ne_zero, and_self, and_true, true_and, List.take_zero, List.drop_succ_cons, List.drop_zero, List.take_succ_cons, List.replicate_one, List.drop_nil, List.take_nil, Nat.le_refl, Nat.zero_add, Nat.zero_mul, Nat.one_mul, Nat.mul_one, Tryz.underlying22, m62, bi_append, ↓ap2, ↓hw2, ↓ap3, ↓hw3]
      refine W.pcall (asks_fz m nm) rfl rfl rfl ?_
      rintro _ rfl
      simp only [walk, walkL, evOp, quietOp, farOp, nov, gd, rho, putT, wr, Nat.reduceAdd, Nat.reduceSub, Bool.false_eq_true, if_true, if_false, reduceIte, reduceCtorEq, walkM, Int.reduceBEq, Int.reduceBNe, Int.reduceLT, Int.reduceLE, decide_true, decide_false, eq_self, Bool.not_true, Bool.not_false, ↓ev_fa, ↓ev_field, ↓ev_load, ↓ev_store, stO_cells, List.all_cons, List.all_nil, Bool.and_self, Bool.and_true, ta5, splice, zerosN, fillV, walkB, pureL, V.pure, Nat.reduceMul, Nat.reduceLeDiff, Nat.one_ne_zero, and_self, and_true, true_and, List.take_zero, List.drop_succ_cons, List.drop_zero, List.take_succ_cons, List.replicate_one, List.drop_nil, List.take_nil, Nat.le_refl, Nat.zero_add, Nat.zero_mul, Nat.one_mul, Nat.mul_one, Tryz.underlying22, m72, bi_append, ↓ap4, ↓hw4, ↓ap5, ↓hw5]
      refine W.pcall (asks_fz m nm) rfl rfl rfl ?_
      rintro _ rfl
      simp only [walk, walkL, evOp, quietOp, farOp, nov, gd, rho, putT, wr, Nat.reduceAdd, Nat.reduceSub, Bool.false_eq_true, if_true, if_false, reduceIte, reduceCtorEq, walkM, Int.reduceBEq, Int.reduceBNe, Int.reduceLT, Int.reduceLE, decide_true, decide_false, eq_self, Bool.not_true, Bool.not_false, ↓ev_fa, ↓ev_field, ↓ev_load, ↓ev_store, stO_cells, List.all_cons, List.all_nil, Bool.and_self, Bool.and_true, ta5, bi_append, ↓ap6, ↓hw6]
      refine W.pcall' p1 rfl rfl (frzL_cons (hf6 _ 11) rfl) ?_
      rintro _ ⟨av, os, rfl, ha1, ha2⟩
      have rlen : (ra ++ (runCalls T (loadAt m :: (looksAt m nm ++ (unloadAt m :: (looksAt m nm ++ (loadAt m :: looksAt m nm)))))).2).length = l.length + 12 := by
        rw [List.length_append, runCalls_len, rl]; simp [looksAt]
      have la := ha1.len Tryz.underlying25
      rw [rlen] at la
      have atj : ∀ j : Nat, j < 12 → _ := fun j hj => ha1.at (k := .i64) Tryz.underlying25 sz38 (by decide) (i := ((l.length + j : Nat) : Int)) (by omega) (by rw [rlen]; omega)
      have at0 := atj 0 (by omega)
      have err_at : ∀ (j : Nat) (r : MReply), (ra ++ (runCalls T (loadAt m :: (looksAt m nm ++ (unloadAt m :: (looksAt m nm ++ (loadAt m :: looksAt m nm)))))).2)[l.length + j]? = some r → os[(l.length + j) * 10 + 0]? = some (.int .i64 r.err) := by
        intro j r hr
        obtain ⟨r3, r4, r10, e, _⟩ := ha2.at_ hr
        injection e with e
        exact cell_of e (by decide)
      have get_at : ∀ (j : Nat), (ra ++ (runCalls T (loadAt m :: (looksAt m nm ++ (unloadAt m :: (looksAt m nm ++ (loadAt m :: looksAt m nm)))))).2)[l.length + j]? = (runCalls T (loadAt m :: (looksAt m nm ++ (unloadAt m :: (looksAt m nm ++ (loadAt m :: looksAt m nm)))))).2[j]? := by
        intro j
        rw [List.getElem?_append_right (by omega), rl]; congr 1; omega
      have f0 := err_at 0 (doCall T (loadAt m)).2 (by rw [get_at]; rfl)
      rcases kl with k6 | ⟨S1, S2, S3, e1, e2, e3, e4, e5⟩
      · rw [k6] at f0
        simp only [walk, walkL, evOp, quietOp, farOp, nov, gd, rho, putT, wr, Nat.reduceAdd, Nat.reduceSub, Bool.false_eq_true, if_true, if_false, reduceIte, reduceCtorEq, walkM, Int.reduceBEq, Int.reduceBNe, Int.reduceLT, Int.reduceLE, decide_true, decide_false, eq_self, Bool.not_true, Bool.not_false, ↓ev_fa, ↓ev_field, ↓ev_load, ↓ev_store, stO_cells, List.all_cons, List.all_nil, Bool.and_self, Bool.and_true, w1, at0, Int.toNat_natCast, ↓f0, ta5]
        exact W.done (EndZ.ret rfl rfl rfl)
      · have er : (runCalls T (loadAt m :: (looksAt m nm ++ (unloadAt m :: (looksAt m nm ++ (loadAt m :: looksAt m nm)))))).2 = fail 0 :: ((runCalls S1 (looksAt m nm)).2 ++ (fail 0 :: ([fail 200, fail 200, fail 200] ++ (fail 0 :: (runCalls S1 (looksAt m nm)).2)))) := by
          simp only [runCalls_app, runCalls, e1, e2, e3, e4, e5]
          rfl
        rw [er] at ha1 ha2 sm err_at get_at rlen
        have r0l : (runCalls S1 (looksAt m nm)).2.length = 3 := by rw [runCalls_len]; rfl
        generalize (runCalls S1 (looksAt m nm)).2 = R0 at *
        rw [e1] at f0
        obtain ⟨x1, x2, x3, rfl⟩ : ∃ a b c, R0 = [a, b, c] := by
          match R0, r0l with
          | [a, b, c], _ => exact ⟨a, b, c, rfl⟩
        have f4 := err_at 4 (fail 0) (by rw [get_at]; rfl)
        have f5 := err_at 5 (fail 200) (by rw [get_at]; rfl)
        have f6 := err_at 6 (fail 200) (by rw [get_at]; rfl)
        have f7 := err_at 7 (fail 200) (by rw [get_at]; rfl)
        have f8 := err_at 8 (fail 0) (by rw [get_at]; rfl)
        have at4 := atj 4 (by omega)
        have at5 := atj 5 (by omega)
        have at6 := atj 6 (by omega)
        have at7 := atj 7 (by omega)
        have at8 := atj 8 (by omega)
        obtain ⟨wx, hx1, hx2⟩ := IsSl.cut (P := Tryz.prog) (u := 25) (e := 38) Tryz.underlying25 sz38 ha1 (some ((l.length + 1 : Nat) : Int)) (some ((l.length + 4 : Nat) : Int)) (by simp only [Option.getD_some]; omega) (by simp only [Option.getD_some]; omega) (by simp only [Option.getD_some, rlen]; omega)
        obtain ⟨wy, hy1, hy2⟩ := IsSl.cut (P := Tryz.prog) (u := 25) (e := 38) Tryz.underlying25 sz38 ha1 (some ((l.length + 9 : Nat) : Int)) none (by simp only [Option.getD_some]; omega) (by simp only [Option.getD_some, Option.getD_none, rlen]; omega) (by simp)
        simp only [Option.map_some, Option.map_none, Option.getD_some, Option.getD_none, Int.toNat_natCast] at hx1 hx2 hy1 hy2
        rw [rlen, show l.length + 12 - (l.length + 9) = 3 by omega] at hy2
        rw [show l.length + 4 - (l.length + 1) = 3 by omega] at hx2
        have rx : RepsC ((os.drop ((l.length + 1) * 10)).take (3 * 10)) [x1, x2, x3] := by
          have q : RepsC os ((ra ++ [fail 0]) ++ ([x1, x2, x3] ++ (fail 0 :: ([fail 200, fail 200, fail 200] ++ (fail 0 :: [x1, x2, x3]))))) := by simpa using ha2
          have := (q.drop).take
          rwa [List.length_append, rl] at this
        have ry : RepsC ((os.drop ((l.length + 9) * 10)).take (3 * 10)) [x1, x2, x3] := by
          have q : RepsC os ((ra ++ [fail 0, x1, x2, x3, fail 0, fail 200, fail 200, fail 200, fail 0]) ++ ([x1, x2, x3] ++ [])) := by simpa using ha2
          have := (q.drop).take
          rwa [List.length_append, rl] at this
        have smx : ∀ r ∈ [x1, x2, x3], SmallR r := fun r hr => sm r (by
          rw [List.mem_append]; right
          exact List.mem_cons_of_mem _ (List.mem_append_left _ hr))
        have z0 : ((fail 0).err : Int) = 0 := rfl
        have z2 : ((fail 200).err : Int) = 200 := rfl
        simp only [walk, walkL, evOp, quietOp, farOp, nov, gd, rho, putT, wr, Nat.reduceAdd, Nat.reduceSub, Bool.false_eq_true, if_true, if_false, reduceIte, reduceCtorEq, walkM, Int.reduceBEq, Int.reduceBNe, Int.reduceLT, Int.reduceLE, decide_true, decide_false, eq_self, Bool.not_true, Bool.not_false, ↓ev_fa, ↓ev_field, ↓ev_load, ↓ev_store, stO_cells, List.all_cons, List.all_nil, Bool.and_self, Bool.and_true, w1, w3, w4, w5, w6, w7, w8, at0, at4, at5, at6, at7, at8, Int.toNat_natCast, ↓f0, ↓f4, ↓f5, ↓f6, ↓f7, ↓f8, z0, z2, ↓hx1, ↓hy1, ta5]
        refine W.pcallT (sameAll_fz wx wy [x1, x2, x3] _ _ hx2 hy2 rx ry smx (by simp)) rfl rfl (frzL_cons (hx2.frz _) (frzL_cons (hy2.frz _) rfl)) ?_
        rintro _ rfl
        simp only [walk, walkL, evOp, quietOp, farOp, nov, gd, rho, putT, wr, Nat.reduceAdd, Nat.reduceSub, Bool.false_eq_true, if_true, if_false, reduceIte, reduceCtorEq, walkM, Int.reduceBEq, Int.reduceBNe, Int.reduceLT, Int.reduceLE, decide_true, decide_false, eq_self, Bool.not_true, Bool.not_false, ↓ev_fa, ↓ev_field, ↓ev_load, ↓ev_store, stO_cells, List.all_cons, List.all_nil, Bool.and_self, Bool.and_true]
        refine W.opsK (by kernel_rfl) ?_
        simp only [walk, walkL, evOp, quietOp, farOp, nov, gd, rho, putT, wr, Nat.reduceAdd, Nat.reduceSub, Bool.false_eq_true, if_true, if_false, reduceIte, reduceCtorEq, walkM, Int.reduceBEq, Int.reduceBNe, Int.reduceLT, Int.reduceLE, decide_true, decide_false, eq_self, Bool.not_true, Bool.not_false, ↓ev_fa, ↓ev_field, ↓ev_load, ↓ev_store, stO_cells, List.all_cons, List.all_nil, Bool.and_self, Bool.and_true]
        exact W.done (EndZ.ret rfl rfl rfl)
    have c1' : decide ((i : Int) < l.length) = true := decide_eq_true (by omega)
    have wi : (IntKind.i64).wrap ((i : Int) + 1) = ((i + 1 : Nat) : Int) := by rw [wrap_i64] <;> omega
    have at1 := hv.at (k := .i64) Tryz.underlying22 sz32 (by decide) (i := (i : Int)) (by omega) (by omega)
    obtain ⟨dv, hcell, hok⟩ := okc.at_ (List.getElem?_eq_getElem h)
    have rdc : readAt Tryz.prog 32 cs (i * 8) = some (.agg (callC l[i] dv)) := by
      rw [rd32, if_pos (by rw [okc.len]; omega)]
      exact congrArg (fun x => some (V.agg x)) hcell
    have sdv := IsSl.scalar hok.data
    have pdv := IsSl.pure hok.data
    have okP : CallOk (withP l[i]) dv := ⟨hok.data, hok.name, hok.as_, by show pP.length ≤ 100000; decide, hok.dlen⟩
    have isx : IsSl 8 (.islice (callC (withP l[i]) dv) 1 true) (callC (withP l[i]) dv) 1 := IsSl.mk rfl
    have px : pureL (callC (withP l[i]) dv) = true := by simp only [callC, pureL, V.pure, pdv, Bool.and_self]
    have sx : (callC (withP l[i]) dv).all V.scalar = true := by simp only [callC, List.all_cons, sdv]; rfl
    have stake : (l.take (i + 1)).map withP = (l.take i).map withP ++ [withP l[i]] := by
      rw [List.take_add_one, List.getElem?_eq_getElem h, Option.toList_some, List.map_append]; rfl
    have hcc' : CallsC (c1 ++ callC (withP l[i]) dv) ((l.take (i + 1)).map withP) := by
      rw [stake]; exact hcc.app ⟨dv, [], (List.append_nil _).symm, okP, rfl⟩
    have m45 : pol.mt 5 45 = false := rfl
    rcases hd with ⟨rfl, rfl, rfl, rfl⟩ | ⟨h0, rfl, hl1, xs, rfl⟩
    · refine ⟨_, [[]], (forget_drop (kt := [0, 1, 2, 8, 9]) (ds := [10]) rfl (by rw [ht]; simp only [st5_6, refsL, V.refs, vr]; rfl) rfl).trans rfl, ?_⟩
      rw [ht]
      simp only [st5_6]
      have ap := app1_nil (H := [[(10, .cells (callC (withP l[0]) dv))]]) (mt := pol.mt 5) isx px rfl rfl
      simp only [callC, withP, pP] at ap
      simp only [walk, walkL, evOp, quietOp, farOp, nov, gd, rho, putT, wr, Nat.reduceAdd, Nat.reduceSub, Bool.false_eq_true, if_true, if_false, reduceIte, reduceCtorEq, walkM, Int.reduceBEq, Int.reduceBNe, Int.reduceLT, Int.reduceLE, decide_true, decide_false, eq_self, Bool.not_true, Bool.not_false, ↓ev_fa, ↓ev_field, ↓ev_load, ↓ev_store, stO_cells, List.all_cons, List.all_nil, Bool.and_self, Bool.and_true, lv, c1', at1, Int.toNat_natCast, ↓rdc, callC, ta5, new, hget, hset, fget, fset, List.modify_zero_cons, List.modify_succ_cons, List.modify_cons, Nat.reduceLT, Nat.reduceEqDiff, Nat.lt_irrefl, Nat.not_lt_zero, Nat.lt_add_one, splice, zerosN, fillV, walkB, pureL, V.pure, Nat.reduceMul, Nat.reduceLeDiff, Nat.one_ne_zero, and_self, and_true, true_and, List.take_zero, List.drop_succ_cons, List.drop_zero, List.take_succ_cons, List.replicate_one, List.drop_nil, List.take_nil, Nat.le_refl, Nat.zero_add, Nat.zero_mul, Nat.one_mul, Nat.mul_one, sdv, pdv, Tryz.underlying22, m45, bi_append, pP, ↓ap, wi]
      exact W.done ⟨0 + 1, ⟨_, _, rfl, by omega, .inr ⟨by omega, rfl, rfl, _, rfl⟩, hcc'⟩, by omega⟩
    · refine ⟨_, [[(46, .grow i)]], (forget_drop (kt := [0, 1, 2, 8, 9]) (ds := [10]) rfl (by rw [ht]; simp only [st5_6, refsL, V.refs, vr]; rfl) rfl).trans rfl, ?_⟩
      rw [ht]
      simp only [st5_6]
      have ap := app1_more (H := [[(10, .cells (callC (withP l[i]) dv)), (46, .grow i)]]) (mt := pol.mt 5) rfl hl1 isx px sx (by omega)
      simp only [callC, withP, pP] at ap
      simp only [walk, walkL, evOp, quietOp, farOp, nov, gd, rho, putT, wr, Nat.reduceAdd, Nat.reduceSub, Bool.false_eq_true, if_true, if_false, reduceIte, reduceCtorEq, walkM, Int.reduceBEq, Int.reduceBNe, Int.reduceLT, Int.reduceLE, decide_true, decide_false, eq_self, Bool.not_true, Bool.not_false, ↓ev_fa, ↓ev_field, ↓ev_load, ↓ev_store, stO_cells, List.all_cons, List.all_nil, Bool.and_self, Bool.and_true, lv, c1', at1, Int.toNat_natCast, ↓rdc, callC, ta5, new, hget, hset, fget, fset, List.modify_zero_cons, List.modify_succ_cons, List.modify_cons, Nat.reduceLT, Nat.reduceEqDiff, Nat.lt_irrefl, Nat.not_lt_zero, Nat.lt_add_one, splice, zerosN, fillV, walkB, pureL, V.pure, Nat.reduceMul, Nat.reduceLeDiff, Nat.one_ne_zero, and_self, and_true, true_and, List.take_zero, List.drop_succ_cons, List.drop_zero, List.take_succ_cons, List.replicate_one, List.drop_nil, List.take_nil, Nat.le_refl, Nat.zero_add, Nat.zero_mul, Nat.one_mul, Nat.mul_one, sdv, pdv, Tryz.underlying22, m45, bi_append, pP, ↓ap, wi]
      exact W.done ⟨i + 1, ⟨_, _, rfl, by omega, .inr ⟨by omega, rfl, by rw [List.length_append, hl1]; simp only [List.length_cons, List.length_nil]; omega, _, rfl⟩, hcc'⟩, by omega⟩
end Go.Proofs.YtebbgmeomkjibaaGreat
end
