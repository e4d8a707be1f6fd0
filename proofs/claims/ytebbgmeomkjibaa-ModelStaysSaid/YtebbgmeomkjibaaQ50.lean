/- This file holds in one the texts O33; each says at its head what it proves. -/
import Derived.Test.YtebbgmeomkjibaaQ49
set_option linter.unusedSimpArgs false
set_option linter.unusedVariables false
section
/- model: ModelStays. -/
set_option maxRecDepth 100000
namespace Go.Proofs.Ytebbgmeomkjibaa
open Go.AM Go.Mod

attribute [local irreducible] U W

def snapOne : MCall := ⟨2, 1, 0, 0, [], [], [], []⟩
def looksAt (id : Int) (nm : Bytes) : List MCall := [⟨18, id, 0, 0, [], [], [], []⟩, ⟨14, id, 3840, 0, nm, [], [], []⟩, ⟨17, id, 0, 0, nm, [], [], []⟩]
def onlyOne (c : MCall) : Bool := isLine c.kind && decide (c.a = 1)

theorem Gr.sc {H : Heap} {s : V} {cs : List V} {n esz : Nat} (h : Gr H s cs n esz) {g : Get} : sliceCells g esz s = some (cs, n) := by
  rcases h with ⟨rfl, rfl, rfl⟩ | ⟨f, sl, rfl, _, hl⟩
  · rfl
  · simp [sliceCells]
theorem Gr.cnt {H : Heap} {s : V} {cs : List V} {n esz : Nat} (h : Gr H s cs n esz) : cs.length = n * esz := by
  rcases h with ⟨rfl, rfl, rfl⟩ | ⟨f, sl, rfl, _, hl⟩
  · simp
  · exact hl
/-- A list is begun with another one's elements. -/
theorem app_first {H : Heap} {x : V} {ds : List V} {m d fr : Nat} {mt : Nat → Bool} (hsc : ∀ g, sliceCells g 8 x = some (ds, m)) (hl : ds.length = m * 8) (h0 : 0 < m) (hp : pureL ds = true) (hd : hget H fr d = none) (hfr : fr < H.length) (hm : mt d = false) (hn : m ≤ 1000) :
    ∃ s' w, appendV Try.prog mt fr (hget H) (some d) 30 30 .nilslice x = some (.val s' w) ∧ Gr (wr H w) s' ds m 8 ∧ s' = .gslice fr d ds m 8 ∧ (wr H w).length = H.length ∧ (∀ f e, (f ≠ fr ∨ e ≠ d) → hget (wr H w) f e = hget H f e) := by
  obtain ⟨m, rfl⟩ : ∃ k, m = k + 1 := ⟨m - 1, by omega⟩
  refine ⟨.gslice fr d ds (m + 1) 8, some (fr, d, .grow (m + 1)), ?_, .inr ⟨fr, d, rfl, ?_, hl⟩, rfl, by simp [wr, hset_length], fun f e he => ?_⟩
  · rw [app_nil Try.underlying30 sz28 by_call zc28 rfl Try.underlying30 (hsc _) (by omega) (roomy_of (by omega) (by omega)), grown_im hm hp hd]
  · simp only [wr]; rw [hget_same hfr]
  · simp only [wr]; rw [hget_ne hfr]; rintro ⟨rfl, rfl⟩; rcases he with h | h <;> exact h rfl
/-- A list that there is goes on. -/
theorem app_on {H : Heap} {f sl : Nat} {x : V} {cs ds : List V} {n m fr : Nat} {dst : Option Nat} {mt : Nat → Bool} (hg : hget H f sl = some (.grow n)) (hc : cs.length = n * 8) (hx : IsSl 8 x ds m) (h0 : 0 < m) (hp : pureL ds = true) (hs : ds.all V.scalar = true) (hn : n + m ≤ 1000) :
    ∃ w, appendV Try.prog mt fr (hget H) dst 30 30 (.gslice f sl cs n 8) x = some (.val (.gslice f sl (cs ++ ds) (n + m) 8) w) ∧ Gr (wr H w) (.gslice f sl (cs ++ ds) (n + m) 8) (cs ++ ds) (n + m) 8 ∧ hget (wr H w) f sl = some (.grow (n + m)) ∧ (wr H w).length = H.length ∧ (∀ a e, (a ≠ f ∨ e ≠ sl) → hget (wr H w) a e = hget H a e) := by
  obtain ⟨m, rfl⟩ : ∃ k, m = k + 1 := ⟨m - 1, by omega⟩
  have hf := hget_lt hg
  have hl : (cs ++ ds).length = (n + (m + 1)) * 8 := by rw [List.length_append, hc, hx.1]; omega
  refine ⟨some (f, sl, .grow (n + (m + 1))), ?_, .inr ⟨f, sl, rfl, ?_, hl⟩, ?_, by simp [wr, hset_length], fun a e he => ?_⟩
  · exact app_more Try.underlying30 sz28 by_call zc28 rfl Try.underlying30 (IsSl.sc hx) (by omega) (roomy_of (by omega) (by omega)) hp hs hg
  · simp only [wr]; exact hget_same hf
  · simp only [wr]; exact hget_same hf
  · simp only [wr]; rw [hget_ne hf]; rintro ⟨rfl, rfl⟩; rcases he with h | h <;> exact h rfl

theorem RepsC.drop : ∀ {a b : List MReply} {cs : List V}, RepsC cs (a ++ b) → RepsC (cs.drop (a.length * 10)) b
  | [], b, cs, h => by simpa using h
  | x :: a, b, cs, h => by
    obtain ⟨c, d, rfl, h1, h2, h3⟩ := h
    have := h3.drop
    rw [List.length_cons, show (a.length + 1) * 10 = c.length + a.length * 10 by omega, List.drop_length_add_append]
    exact this
theorem stays_law (v w : V) (cs ds : List V) (l more : List MCall) (nm : Bytes) (hv : IsSl 8 v cs l.length) (hw : IsSl 8 w ds more.length) (hc : CallsR cs l) (hd : CallsR ds more) : Fz Try.prog pol 5 [v, w, .str nm] fun r => r = .bool true := by
  refine fz_of Try.func5 rfl ?_
  have lv := hv.len Try.underlying30
  have lw := hw.len Try.underlying30
  simp only [walk, walkL, evOp, quietOp, farOp, nov, gd, rho, putT, wr, Nat.reduceAdd, Nat.reduceSub, Bool.false_eq_true, if_true, if_false, reduceIte, reduceCtorEq, walkM, Int.reduceBEq, Int.reduceBNe, Int.reduceLT, Int.reduceLE, decide_true, decide_false, eq_self, Bool.not_true, Bool.not_false, ↓ev_fa, ↓ev_field, ↓ev_load, ↓ev_store, stO_cells, List.all_cons, List.all_nil, Bool.and_self, Bool.and_true, Try.ntmps5]
  refine W.pcall alive_fz rfl rfl rfl ?_
  rintro _ rfl
  simp only [walk, walkL, evOp, quietOp, farOp, nov, gd, rho, putT, wr, Nat.reduceAdd, Nat.reduceSub, Bool.false_eq_true, if_true, if_false, reduceIte, reduceCtorEq, walkM, Int.reduceBEq, Int.reduceBNe, Int.reduceLT, Int.reduceLE, decide_true, decide_false, eq_self, Bool.not_true, Bool.not_false, ↓ev_fa, ↓ev_field, ↓ev_load, ↓ev_store, stO_cells, List.all_cons, List.all_nil, Bool.and_self, Bool.and_true]
  refine W.pcall (great_fz v cs l hv hc 40 (by decide)) rfl rfl (frzL_cons (hv.frz _) rfl) ?_
  rintro _ rfl
  cases g1 : greatB l 40 with
  | true =>
    simp only [walk, walkL, evOp, quietOp, farOp, nov, gd, rho, putT, wr, Nat.reduceAdd, Nat.reduceSub, Bool.false_eq_true, if_true, if_false, reduceIte, reduceCtorEq, walkM, Int.reduceBEq, Int.reduceBNe, Int.reduceLT, Int.reduceLE, decide_true, decide_false, eq_self, Bool.not_true, Bool.not_false, ↓ev_fa, ↓ev_field, ↓ev_load, ↓ev_store, stO_cells, List.all_cons, List.all_nil, Bool.and_self, Bool.and_true]
    exact W.done (EndZ.ret rfl rfl rfl)
  | false =>
    simp only [walk, walkL, evOp, quietOp, farOp, nov, gd, rho, putT, wr, Nat.reduceAdd, Nat.reduceSub, Bool.false_eq_true, if_true, if_false, reduceIte, reduceCtorEq, walkM, Int.reduceBEq, Int.reduceBNe, Int.reduceLT, Int.reduceLE, decide_true, decide_false, eq_self, Bool.not_true, Bool.not_false, ↓ev_fa, ↓ev_field, ↓ev_load, ↓ev_store, stO_cells, List.all_cons, List.all_nil, Bool.and_self, Bool.and_true]
    refine W.pcall (great_fz w ds more hw hd 40 (by decide)) rfl rfl (frzL_cons (hw.frz _) rfl) ?_
    rintro _ rfl
    cases g2 : greatB more 40 with
    | true =>
      simp only [walk, walkL, evOp, quietOp, farOp, nov, gd, rho, putT, wr, Nat.reduceAdd, Nat.reduceSub, Bool.false_eq_true, if_true, if_false, reduceIte, reduceCtorEq, walkM, Int.reduceBEq, Int.reduceBNe, Int.reduceLT, Int.reduceLE, decide_true, decide_false, eq_self, Bool.not_true, Bool.not_false, ↓ev_fa, ↓ev_field, ↓ev_load, ↓ev_store, stO_cells, List.all_cons, List.all_nil, Bool.and_self, Bool.and_true]
      exact W.done (EndZ.ret rfl rfl rfl)
    | false =>
      have n1 := great_no g1
      have n2 := great_no g2
      have w1 : (IntKind.i64).wrap ((l.length : Int) + (more.length : Int)) = ((l.length + more.length : Nat) : Int) := by rw [wrap_i64] <;> omega
      by_cases h36 : 36 < l.length + more.length
      · have d1 : decide (((l.length + more.length : Nat) : Int) > 36) = true := decide_eq_true (by omega)
        simp only [walk, walkL, evOp, quietOp, farOp, nov, gd, rho, putT, wr, Nat.reduceAdd, Nat.reduceSub, Bool.false_eq_true, if_true, if_false, reduceIte, reduceCtorEq, walkM, Int.reduceBEq, Int.reduceBNe, Int.reduceLT, Int.reduceLE, decide_true, decide_false, eq_self, Bool.not_true, Bool.not_false, ↓ev_fa, ↓ev_field, ↓ev_load, ↓ev_store, stO_cells, List.all_cons, List.all_nil, Bool.and_self, Bool.and_true, lv, lw, w1, d1]
        exact W.done (EndZ.ret rfl rfl rfl)
      · have d1 : decide (((l.length + more.length : Nat) : Int) > 36) = false := decide_eq_false (by omega)
        by_cases hnm : 1000 < nm.length
        · have d2 : decide ((nm.length : Int) > 1000) = true := decide_eq_true (by omega)
          simp only [walk, walkL, evOp, quietOp, farOp, nov, gd, rho, putT, wr, Nat.reduceAdd, Nat.reduceSub, Bool.false_eq_true, if_true, if_false, reduceIte, reduceCtorEq, walkM, Int.reduceBEq, Int.reduceBNe, Int.reduceLT, Int.reduceLE, decide_true, decide_false, eq_self, Bool.not_true, Bool.not_false, ↓ev_fa, ↓ev_field, ↓ev_load, ↓ev_store, stO_cells, List.all_cons, List.all_nil, Bool.and_self, Bool.and_true, lv, lw, w1, d1, d2, ta5]
          exact W.done (EndZ.ret rfl rfl rfl)
        · have d2 : decide ((nm.length : Int) > 1000) = false := decide_eq_false (by omega)
          have okc : CallsC cs l := hc.ok (by have := n1.2.1; rwa [List.take_of_length_le (by omega)] at this)
          have okd : CallsC ds more := hd.ok (by have := n2.2.1; rwa [List.take_of_length_le (by omega)] at this)
          obtain ⟨s1, u1, ap1, gr1, gl1, gk1⟩ := app_calls (H := [[]]) (s := .nilslice) (x := v) (cs := []) (n := 0) (d := 47) (fr := 0) (mt := pol.mt 5) (.inl ⟨rfl, rfl, rfl⟩) hv hc.pure.1 hc.pure.2 rfl (by decide) rfl (by omega)
          rw [List.nil_append, Nat.zero_add] at gr1
          generalize hw1 : wr [[]] u1 = H1 at *
          have isx : IsSl 8 (.islice (callC snapOne .nilslice) 1 true) (callC snapOne .nilslice) 1 := IsSl.mk rfl
          obtain ⟨s2, u2, ap2, gr2, gl2, gk2⟩ := app_calls (H := H1) (s := s1) (x := .islice (callC snapOne .nilslice) 1 true) (d := 51) (fr := 0) (mt := pol.mt 5) gr1 isx rfl rfl (gk1 51 (by decide) rfl) (by rw [gl1]; decide) rfl (by omega)
          generalize hw2 : wr H1 u2 = H2 at *
          have m50 : pol.mt 5 50 = false := rfl
          have m86 : pol.mt 5 86 = false := rfl
          have m123 : pol.mt 5 123 = false := rfl
          simp only [callC, snapOne] at ap2
          simp only [walk, walkL, evOp, quietOp, farOp, nov, gd, rho, putT, wr, Nat.reduceAdd, Nat.reduceSub, Bool.false_eq_true, if_true, if_false, reduceIte, reduceCtorEq, walkM, Int.reduceBEq, Int.reduceBNe, Int.reduceLT, Int.reduceLE, decide_true, decide_false, eq_self, Bool.not_true, Bool.not_false, ↓ev_fa, ↓ev_field, ↓ev_load, ↓ev_store, stO_cells, List.all_cons, List.all_nil, Bool.and_self, Bool.and_true, lv, lw, w1, d1, d2, ta5, bi_append, ↓ap1, ↓hw1, splice, zerosN, fillV, walkB, pureL, V.pure, Nat.reduceMul, Nat.reduceLeDiff, Nat.one_ne_zero, and_self, and_true, true_and, List.take_zero, List.drop_succ_cons, List.drop_zero, List.take_succ_cons, List.replicate_one, List.drop_nil, List.take_nil, Nat.le_refl, Nat.zero_add, Nat.zero_mul, Nat.one_mul, Nat.mul_one, V.cells, Try.underlying30, m50, ↓ap2, ↓hw2]
          obtain ⟨fr2, hf2, hs2⟩ := gr2.frz
          have l2 := gr2.len (P := Try.prog) (u := 30) Try.underlying30
          have okone : CallsC (callC snapOne .nilslice) [snapOne] := ⟨.nilslice, [], rfl, ⟨IsBytes.nil, by decide, by decide, by decide, by decide⟩, rfl⟩
          have okall : CallsC (cs ++ callC snapOne .nilslice) (l ++ [snapOne]) := okc.app okone
          have hsl : IsSl 8 fr2 (cs ++ callC snapOne .nilslice) (l ++ [snapOne]).length := by rw [List.length_append]; exact hs2
          have p1 := play_fz fr2 (cs ++ callC snapOne .nilslice) (l ++ [snapOne]) hsl okall
          have nl : ¬ 64 < (l ++ [snapOne]).length := by rw [List.length_append]; simp only [List.length_singleton]; omega
          simp only [nl, if_false] at p1
          refine W.pcall' p1 rfl rfl (frzL_cons (hf2 _ 11) rfl) ?_
          rintro _ ⟨av, os, rfl, ha1, ha2⟩
          have la := ha1.len Try.underlying22
          rw [runCalls_app] at ha1 ha2 la
          have ok1 := runCalls_ok l emptySt 0 emptyOk
          have rl := runCalls_len l emptySt
          generalize (runCalls emptySt l).2 = ra at *
          generalize hS1 : (runCalls emptySt l).1 = T at *
          have rlen : (ra ++ (runCalls T [snapOne]).2).length = l.length + 1 := by rw [List.length_append, runCalls_len, rl]; rfl
          simp only [rlen] at ha1 la
          have hr := ha2.at_ (i := l.length) (r := (doCall T snapOne).2) (by rw [← rl]; simp [runCalls])
          have hid := snap_id ok1 (c := snapOne) rfl rfl
          generalize (doCall T snapOne).2 = r at *
          obtain ⟨r3, r4, r10, e, _⟩ := hr
          injection e with e
          have f0 : os[l.length * 10 + 0]? = some (.int .i64 r.err) := cell_of e (by decide)
          have f1 : os[l.length * 10 + 1]? = some (.int .i64 r.id) := cell_of e (by decide)
          have at1 := ha1.at (k := .i64) Try.underlying22 sz36 (by decide) (i := (l.length : Int)) (by omega) (by omega)
          have w2 : (IntKind.i64).wrap (((l.length + 1 : Nat) : Int) - 1) = (l.length : Int) := by rw [wrap_i64] <;> omega
          by_cases he : r.err = 0
          case neg =>
            have b1 : (r.err != 0) = true := by simpa using he
            simp only [walk, walkL, evOp, quietOp, farOp, nov, gd, rho, putT, wr, Nat.reduceAdd, Nat.reduceSub, Bool.false_eq_true, if_true, if_false, reduceIte, reduceCtorEq, walkM, Int.reduceBEq, Int.reduceBNe, Int.reduceLT, Int.reduceLE, decide_true, decide_false, eq_self, Bool.not_true, Bool.not_false, ↓ev_fa, ↓ev_field, ↓ev_load, ↓ev_store, stO_cells, List.all_cons, List.all_nil, Bool.and_self, Bool.and_true, la, w2, at1, Int.toNat_natCast, f0, b1, ta5]
            exact W.done (EndZ.ret rfl rfl rfl)
          have b1 : (r.err != 0) = false := by simpa using he
          simp only [walk, walkL, evOp, quietOp, farOp, nov, gd, rho, putT, wr, Nat.reduceAdd, Nat.reduceSub, Bool.false_eq_true, if_true, if_false, reduceIte, reduceCtorEq, walkM, Int.reduceBEq, Int.reduceBNe, Int.reduceLT, Int.reduceLE, decide_true, decide_false, eq_self, Bool.not_true, Bool.not_false, ↓ev_fa, ↓ev_field, ↓ev_load, ↓ev_store, stO_cells, List.all_cons, List.all_nil, Bool.and_self, Bool.and_true, la, w2, at1, Int.toNat_natCast, f0, f1, b1, ta5, splice, zerosN, fillV, walkB, pureL, V.pure, Nat.reduceMul, Nat.reduceLeDiff, Nat.one_ne_zero, and_self, and_true, true_and, List.take_zero, List.drop_succ_cons, List.drop_zero, List.take_succ_cons, List.replicate_one, List.drop_nil, List.take_nil, Nat.le_refl, Nat.zero_add, Nat.zero_mul, Nat.one_mul, Nat.mul_one, V.cells, Try.underlying30, m86]
          rcases gr2 with ⟨rfl, h0, _⟩ | ⟨f2, sl2, rfl, hg2, hc2⟩
          · omega
          have Hl2 : H2.length = 1 := by rw [gl2, gl1]; rfl
          have pc2 : pureL (cs ++ callC snapOne .nilslice) = true := pl_app hc.pure.1 rfl
          obtain ⟨s3, u3, ap3, gr3, rfl, gl3, gk3⟩ := app_first (H := H2) (x := .gslice f2 sl2 (cs ++ callC snapOne .nilslice) (l.length + 1) 8) (ds := cs ++ callC snapOne .nilslice) (m := l.length + 1) (d := 89) (fr := 0) (mt := pol.mt 5) (fun g => by simp [sliceCells]) hc2 (by omega) pc2
            (gk2 89 (by decide) (gk1 89 (by decide) rfl)) (by rw [Hl2]; decide) rfl (by omega)
          have hg3 : hget (wr H2 u3) 0 89 = some (.grow (l.length + 1)) := by
            rcases gr3 with ⟨h, _⟩ | ⟨f, sl, h, h1, _⟩
            · cases h
            · cases h; exact h1
          have ne2 : f2 ≠ 0 ∨ sl2 ≠ 89 := by
            by_cases q : f2 = 0 ∧ sl2 = 89
            · obtain ⟨rfl, rfl⟩ := q
              rw [gk2 89 (by decide) (gk1 89 (by decide) rfl)] at hg2; cases hg2
            · by_cases q1 : f2 = 0
              · exact .inr fun h => q ⟨q1, h⟩
              · exact .inl q1
          have hg23 : hget (wr H2 u3) f2 sl2 = some (.grow (l.length + 1)) := by rw [gk3 f2 sl2 ne2]; exact hg2
          generalize hw3 : wr H2 u3 = H3 at *
          simp only [walk, walkL, evOp, quietOp, farOp, nov, gd, rho, putT, wr, Nat.reduceAdd, Nat.reduceSub, Bool.false_eq_true, if_true, if_false, reduceIte, reduceCtorEq, walkM, Int.reduceBEq, Int.reduceBNe, Int.reduceLT, Int.reduceLE, decide_true, decide_false, eq_self, Bool.not_true, Bool.not_false, ↓ev_fa, ↓ev_field, ↓ev_load, ↓ev_store, stO_cells, List.all_cons, List.all_nil, Bool.and_self, Bool.and_true, bi_append, ↓ap3, ↓hw3]
          refine W.ul ?_
          refine W.loop (fun (i : Nat) t H => ∃ k cells, maskT [1, 8, 12, 13, 14] t 0 = st5_15 w (.gslice f2 sl2 (cs ++ callC snapOne .nilslice) (l.length + 1) 8) (.islice [.int .u8 18, .int .i64 r.id, .int .i64 0, .int .i64 0, .str [], .str [], .str [], .nilslice, .int .u8 14, .int .i64 r.id, .int .i64 3840, .int .i64 0, .str nm, .str [], .str [], .nilslice, .int .u8 17, .int .i64 r.id, .int .i64 0, .int .i64 0, .str nm, .str [], .str [], .nilslice] 3 true) (.gslice 0 89 cells k 8) (.int .i64 i) ∧ i ≤ more.length ∧ hget H 0 89 = some (.grow k) ∧ hget H f2 sl2 = some (.grow (l.length + 1)) ∧
            CallsC cells (l ++ [snapOne] ++ (more.take i).filter onlyOne) ∧ k = (l ++ [snapOne] ++ (more.take i).filter onlyOne).length ∧ cells.length = k * 8 ∧ pureL cells = true ∧ k ≤ l.length + 1 + i) (fun i => more.length - i) ?_ 0 ⟨l.length + 1, cs ++ callC snapOne .nilslice, rfl, by omega, hg3, hg23, by simpa using okall, by simp, hc2, pc2, by omega⟩ rfl
          rintro i t H ⟨k, cells, ht, hi, h89, hf2, hcc, hk, hcl, hpc, hkl⟩
          refine ⟨_, _, forget_keep (kt := [1, 8, 12, 13, 14]) rfl, ?_⟩
          rw [ht]
          simp only [st5_15]
          by_cases h : i < more.length
          case neg =>
            have e : i = more.length := by omega
            subst e
            have c1 : decide ((more.length : Int) < more.length) = false := decide_eq_false (by omega)
            simp only [walk, walkL, evOp, quietOp, farOp, nov, gd, rho, putT, wr, Nat.reduceAdd, Nat.reduceSub, Bool.false_eq_true, if_true, if_false, reduceIte, reduceCtorEq, walkM, Int.reduceBEq, Int.reduceBNe, Int.reduceLT, Int.reduceLE, decide_true, decide_false, eq_self, Bool.not_true, Bool.not_false, ↓ev_fa, ↓ev_field, ↓ev_load, ↓ev_store, stO_cells, List.all_cons, List.all_nil, Bool.and_self, Bool.and_true, lw, c1]
            refine W.done ?_
            rw [List.take_length] at hcc hk
            have lk := (show Gr H (.gslice 0 89 cells k 8) cells k 8 from .inr ⟨0, 89, rfl, h89, hcl⟩).len (P := Try.prog) (u := 30) Try.underlying30
            have isl : IsSl 8 (.islice [.int .u8 18, .int .i64 r.id, .int .i64 0, .int .i64 0, .str [], .str [], .str [], .nilslice, .int .u8 14, .int .i64 r.id, .int .i64 3840, .int .i64 0, .str nm, .str [], .str [], .nilslice, .int .u8 17, .int .i64 r.id, .int .i64 0, .int .i64 0, .str nm, .str [], .str [], .nilslice] 3 true) [.int .u8 18, .int .i64 r.id, .int .i64 0, .int .i64 0, .str [], .str [], .str [], .nilslice, .int .u8 14, .int .i64 r.id, .int .i64 3840, .int .i64 0, .str nm, .str [], .str [], .nilslice, .int .u8 17, .int .i64 r.id, .int .i64 0, .int .i64 0, .str nm, .str [], .str [], .nilslice] 3 := IsSl.mk rfl
            have okl : CallsC [.int .u8 18, .int .i64 r.id, .int .i64 0, .int .i64 0, .str [], .str [], .str [], .nilslice, .int .u8 14, .int .i64 r.id, .int .i64 3840, .int .i64 0, .str nm, .str [], .str [], .nilslice, .int .u8 17, .int .i64 r.id, .int .i64 0, .int .i64 0, .str nm, .str [], .str [], .nilslice] (looksAt r.id nm) :=
              ⟨.nilslice, _, rfl, ⟨IsBytes.nil, Nat.zero_le _, Nat.zero_le _, Nat.zero_le _, Nat.zero_le _⟩, .nilslice, _, rfl, ⟨IsBytes.nil, by show nm.length ≤ 100000; omega, Nat.zero_le _, Nat.zero_le _, Nat.zero_le _⟩, .nilslice, [], rfl, ⟨IsBytes.nil, by show nm.length ≤ 100000; omega, Nat.zero_le _, Nat.zero_le _, Nat.zero_le _⟩, rfl⟩
            obtain ⟨u5, ap5, gr5, hg5, gl5, gk5⟩ := app_on (x := .islice [.int .u8 18, .int .i64 r.id, .int .i64 0, .int .i64 0, .str [], .str [], .str [], .nilslice, .int .u8 14, .int .i64 r.id, .int .i64 3840, .int .i64 0, .str nm, .str [], .str [], .nilslice, .int .u8 17, .int .i64 r.id, .int .i64 0, .int .i64 0, .str nm, .str [], .str [], .nilslice] 3 true) (fr := 0) (dst := some 130) (mt := pol.mt 5) hf2 hc2 isl (by omega) rfl rfl (by omega)
            generalize hw5 : wr H u5 = H5 at *
            have h89' : hget H5 0 89 = some (.grow k) := by rw [gk5 0 89 (by rcases ne2 with h | h; exact .inl (Ne.symm h); exact .inr (Ne.symm h))]; exact h89
            obtain ⟨u6, ap6, gr6, hg6, gl6, gk6⟩ := app_on (x := .islice [.int .u8 18, .int .i64 r.id, .int .i64 0, .int .i64 0, .str [], .str [], .str [], .nilslice, .int .u8 14, .int .i64 r.id, .int .i64 3840, .int .i64 0, .str nm, .str [], .str [], .nilslice, .int .u8 17, .int .i64 r.id, .int .i64 0, .int .i64 0, .str nm, .str [], .str [], .nilslice] 3 true) (fr := 0) (dst := some 137) (mt := pol.mt 5) h89' hcl isl (by omega) rfl rfl (by omega)
            generalize hw6 : wr H5 u6 = H6 at *
            obtain ⟨fr5, hf5, hs5⟩ := gr5.frz
            obtain ⟨fr6, hf6, hs6⟩ := gr6.frz
            have p2 := play_fz fr5 _ ((l ++ [snapOne]) ++ looksAt r.id nm) (by rw [List.length_append, List.length_append]; exact hs5) (okall.app okl)
            have p3 := play_fz fr6 _ ((l ++ [snapOne] ++ more.filter onlyOne) ++ looksAt r.id nm) (by rw [List.length_append, ← hk]; exact hs6) (hcc.app okl)
            have nl2 : ¬ 64 < ((l ++ [snapOne]) ++ looksAt r.id nm).length := by simp only [List.length_append, List.length_singleton, looksAt, List.length_cons, List.length_nil]; omega
            have nl3 : ¬ 64 < ((l ++ [snapOne] ++ more.filter onlyOne) ++ looksAt r.id nm).length := by rw [List.length_append, ← hk]; simp only [looksAt, List.length_cons, List.length_nil]; omega
            simp only [nl2, if_false] at p2
            simp only [nl3, if_false] at p3
            rw [runCalls_app] at p2 p3
            simp only [walk, walkL, evOp, quietOp, farOp, nov, gd, rho, putT, wr, Nat.reduceAdd, Nat.reduceSub, Bool.false_eq_true, if_true, if_false, reduceIte, reduceCtorEq, walkM, Int.reduceBEq, Int.reduceBNe, Int.reduceLT, Int.reduceLE, decide_true, decide_false, eq_self, Bool.not_true, Bool.not_false, ↓ev_fa, ↓ev_field, ↓ev_load, ↓ev_store, stO_cells, List.all_cons, List.all_nil, Bool.and_self, Bool.and_true, lk, bi_append, ↓ap5, ↓hw5]
            refine W.pcall' p2 rfl rfl (frzL_cons (hf5 _ 11) rfl) ?_
            rintro _ ⟨bv, os2, rfl, hb1, hb2⟩
            simp only [walk, walkL, evOp, quietOp, farOp, nov, gd, rho, putT, wr, Nat.reduceAdd, Nat.reduceSub, Bool.false_eq_true, if_true, if_false, reduceIte, reduceCtorEq, walkM, Int.reduceBEq, Int.reduceBNe, Int.reduceLT, Int.reduceLE, decide_true, decide_false, eq_self, Bool.not_true, Bool.not_false, ↓ev_fa, ↓ev_field, ↓ev_load, ↓ev_store, stO_cells, List.all_cons, List.all_nil, Bool.and_self, Bool.and_true, bi_append, ↓ap6, ↓hw6]
            refine W.pcall' p3 rfl rfl (frzL_cons (hf6 _ 11) rfl) ?_
            rintro _ ⟨bw, os3, rfl, hd1, hd2⟩
            have sm := run_small ((l ++ [snapOne]) ++ looksAt r.id nm) emptySt 0 emptyOk (by omega)
            rw [runCalls_app] at sm
            have eqs : (runCalls (runCalls emptySt (l ++ [snapOne] ++ more.filter onlyOne)).1 (looksAt r.id nm)).2 = (runCalls (runCalls emptySt (l ++ [snapOne])).1 (looksAt r.id nm)).2 := by
              refine (looks_same (i := r.id) _ _ _ ?_ ?_).symm
              · rw [runCalls_app (l ++ [snapOne]) (more.filter onlyOne)]
                refine same_others _ _ fun c hc => ?_
                have q := (List.mem_filter.1 hc).2
                simp only [onlyOne, Bool.and_eq_true, decide_eq_true_eq] at q
                exact ⟨q.1, fun e2 => hid he (e2.symm.trans q.2)⟩
              · intro c hc
                simp only [looksAt, List.mem_cons, List.not_mem_nil, or_false] at hc
                rcases hc with rfl | rfl | rfl <;> exact ⟨rfl, rfl⟩
            simp only [eqs] at hd1 hd2
            dsimp only at hb1 hb2 hd1 hd2 sm
            have na : (runCalls emptySt (l ++ [snapOne])).2.length = l.length + 1 := by rw [runCalls_len, List.length_append]; rfl
            have nb : (runCalls emptySt (l ++ [snapOne] ++ more.filter onlyOne)).2.length = k := by rw [runCalls_len, ← hk]
            have nc : (runCalls (runCalls emptySt (l ++ [snapOne])).1 (looksAt r.id nm)).2.length = 3 := by rw [runCalls_len]; rfl
            have lb := hb1.len Try.underlying22
            have lb3 := hd1.len Try.underlying22
            generalize (runCalls emptySt (l ++ [snapOne])).2 = xa at *
            generalize (runCalls emptySt (l ++ [snapOne] ++ more.filter onlyOne)).2 = xb at *
            generalize (runCalls (runCalls emptySt (l ++ [snapOne])).1 (looksAt r.id nm)).2 = xc at *
            obtain ⟨wx, hx1, hx2⟩ := IsSl.cut (P := Try.prog) (u := 22) (e := 36) Try.underlying22 sz36 hb1 (some ((l.length + 1 : Nat) : Int)) none (by simp only [Option.getD_some]; omega) (by simp only [Option.getD_some, Option.getD_none, List.length_append]; omega) (by simp)
            obtain ⟨wy, hy1, hy2⟩ := IsSl.cut (P := Try.prog) (u := 22) (e := 36) Try.underlying22 sz36 hd1 (some (k : Int)) none (by simp only [Option.getD_some]; omega) (by simp only [Option.getD_some, Option.getD_none, List.length_append]; omega) (by simp)
            simp only [Option.map_some, Option.map_none, Option.getD_some, Option.getD_none, Int.toNat_natCast] at hx1 hx2 hy1 hy2
            rw [List.take_of_length_le (Nat.le_of_eq (by rw [List.length_drop, hb1.1, ← Nat.sub_mul])), show (xa ++ xc).length - (l.length + 1) = xc.length by rw [List.length_append]; omega] at hx2
            rw [List.take_of_length_le (Nat.le_of_eq (by rw [List.length_drop, hd1.1, ← Nat.sub_mul])), show (xb ++ xc).length - k = xc.length by rw [List.length_append]; omega] at hy2
            have rx := hb2.drop
            have ry := hd2.drop
            rw [na] at rx
            rw [nb] at ry
            simp only [walk, walkL, evOp, quietOp, farOp, nov, gd, rho, putT, wr, Nat.reduceAdd, Nat.reduceSub, Bool.false_eq_true, if_true, if_false, reduceIte, reduceCtorEq, walkM, Int.reduceBEq, Int.reduceBNe, Int.reduceLT, Int.reduceLE, decide_true, decide_false, eq_self, Bool.not_true, Bool.not_false, ↓ev_fa, ↓ev_field, ↓ev_load, ↓ev_store, stO_cells, List.all_cons, List.all_nil, Bool.and_self, Bool.and_true, lb, lb3, l2, ↓hx1, ↓hy1]
            refine W.pcallT (sameAll_fz wx wy xc _ _ hx2 hy2 rx ry (fun r hr => sm r (List.mem_append_right _ hr)) (by omega)) rfl rfl (frzL_cons (hx2.frz _) (frzL_cons (hy2.frz _) rfl)) ?_
            rintro _ rfl
            simp only [walk, walkL, evOp, quietOp, farOp, nov, gd, rho, putT, wr, Nat.reduceAdd, Nat.reduceSub, Bool.false_eq_true, if_true, if_false, reduceIte, reduceCtorEq, walkM, Int.reduceBEq, Int.reduceBNe, Int.reduceLT, Int.reduceLE, decide_true, decide_false, eq_self, Bool.not_true, Bool.not_false, ↓ev_fa, ↓ev_field, ↓ev_load, ↓ev_store, stO_cells, List.all_cons, List.all_nil, Bool.and_self, Bool.and_true]
            refine W.opsK (by kernel_rfl) ?_
            simp only [walk, walkL, evOp, quietOp, farOp, nov, gd, rho, putT, wr, Nat.reduceAdd, Nat.reduceSub, Bool.false_eq_true, if_true, if_false, reduceIte, reduceCtorEq, walkM, Int.reduceBEq, Int.reduceBNe, Int.reduceLT, Int.reduceLE, decide_true, decide_false, eq_self, Bool.not_true, Bool.not_false, ↓ev_fa, ↓ev_field, ↓ev_load, ↓ev_store, stO_cells, List.all_cons, List.all_nil, Bool.and_self, Bool.and_true]
            exact W.done (EndZ.ret rfl rfl rfl)
          have c1 : decide ((i : Int) < more.length) = true := decide_eq_true (by omega)
          have wi : (IntKind.i64).wrap ((i : Int) + 1) = ((i + 1 : Nat) : Int) := by rw [wrap_i64] <;> omega
          have at2 := hw.at (k := .i64) Try.underlying30 sz28 (by decide) (i := (i : Int)) (by omega) (by omega)
          obtain ⟨dv, hcell, hok⟩ := okd.at_ (List.getElem?_eq_getElem h)
          have k0 : ds[i * 8 + 0]? = some (.int .u8 more[i].kind) := cell_of hcell (by decide)
          have k1 : ds[i * 8 + 1]? = some (.int .i64 more[i].a) := cell_of hcell (by decide)
          have rdc : readAt Try.prog 28 ds (i * 8) = some (.agg (callC more[i] dv)) := by
            rw [rd28, if_pos (by rw [okd.len]; omega)]
            exact congrArg (fun x => some (V.agg x)) hcell
          have sdv := IsSl.scalar hok.data
          have stake : (more.take (i + 1)).filter onlyOne = (more.take i).filter onlyOne ++ (if onlyOne more[i] then [more[i]] else []) := by
            rw [List.take_add_one, List.getElem?_eq_getElem h, Option.toList_some, List.filter_append]
            congr 1
            cases q : onlyOne more[i] <;> simp [q]
          have skip : onlyOne more[i] = false → ∀ t2, maskT [1, 8, 12, 13, 14] t2 0 = st5_15 w (.gslice f2 sl2 (cs ++ callC snapOne .nilslice) (l.length + 1) 8) (.islice [.int .u8 18, .int .i64 r.id, .int .i64 0, .int .i64 0, .str [], .str [], .str [], .nilslice, .int .u8 14, .int .i64 r.id, .int .i64 3840, .int .i64 0, .str nm, .str [], .str [], .nilslice, .int .u8 17, .int .i64 r.id, .int .i64 0, .int .i64 0, .str nm, .str [], .str [], .nilslice] 3 true) (.gslice 0 89 cells k 8) (.int .i64 ((i + 1 : Nat) : Int)) →
            ∃ a', (∃ k cells, maskT [1, 8, 12, 13, 14] t2 0 = st5_15 w (.gslice f2 sl2 (cs ++ callC snapOne .nilslice) (l.length + 1) 8) (.islice [.int .u8 18, .int .i64 r.id, .int .i64 0, .int .i64 0, .str [], .str [], .str [], .nilslice, .int .u8 14, .int .i64 r.id, .int .i64 3840, .int .i64 0, .str nm, .str [], .str [], .nilslice, .int .u8 17, .int .i64 r.id, .int .i64 0, .int .i64 0, .str nm, .str [], .str [], .nilslice] 3 true) (.gslice 0 89 cells k 8) (.int .i64 (a' : Nat)) ∧ a' ≤ more.length ∧ hget H 0 89 = some (.grow k) ∧ hget H f2 sl2 = some (.grow (l.length + 1)) ∧
              CallsC cells (l ++ [snapOne] ++ (more.take a').filter onlyOne) ∧ k = (l ++ [snapOne] ++ (more.take a').filter onlyOne).length ∧ cells.length = k * 8 ∧ pureL cells = true ∧ k ≤ l.length + 1 + a') ∧ more.length - a' < more.length - i := fun q t2 h2 =>
            ⟨i + 1, ⟨k, cells, h2, by omega, h89, hf2, by rw [stake, q]; simpa using hcc, by rw [stake, q]; simpa using hk, hcl, hpc, by omega⟩, by omega⟩
          by_cases q9 : 9 ≤ more[i].kind
          case neg =>
            have b9 : decide (more[i].kind ≥ 9) = false := decide_eq_false (by omega)
            have qf : onlyOne more[i] = false := by simp [onlyOne, isLine, q9]
            simp only [walk, walkL, evOp, quietOp, farOp, nov, gd, rho, putT, wr, Nat.reduceAdd, Nat.reduceSub, Bool.false_eq_true, if_true, if_false, reduceIte, reduceCtorEq, walkM, Int.reduceBEq, Int.reduceBNe, Int.reduceLT, Int.reduceLE, decide_true, decide_false, eq_self, Bool.not_true, Bool.not_false, ↓ev_fa, ↓ev_field, ↓ev_load, ↓ev_store, stO_cells, List.all_cons, List.all_nil, Bool.and_self, Bool.and_true, lw, c1, at2, Int.toNat_natCast, k0, k1, b9, wi, ta5]
            exact W.done (skip qf _ rfl)
          have b9 : decide (more[i].kind ≥ 9) = true := decide_eq_true (by omega)
          by_cases q18 : more[i].kind ≤ 18
          case neg =>
            have b18 : decide (more[i].kind ≤ 18) = false := decide_eq_false (by omega)
            have qf : onlyOne more[i] = false := by simp [onlyOne, isLine, q18]
            simp only [walk, walkL, evOp, quietOp, farOp, nov, gd, rho, putT, wr, Nat.reduceAdd, Nat.reduceSub, Bool.false_eq_true, if_true, if_false, reduceIte, reduceCtorEq, walkM, Int.reduceBEq, Int.reduceBNe, Int.reduceLT, Int.reduceLE, decide_true, decide_false, eq_self, Bool.not_true, Bool.not_false, ↓ev_fa, ↓ev_field, ↓ev_load, ↓ev_store, stO_cells, List.all_cons, List.all_nil, Bool.and_self, Bool.and_true, lw, c1, at2, Int.toNat_natCast, k0, k1, b9, b18, wi, ta5]
            exact W.done (skip qf _ rfl)
          have b18 : decide (more[i].kind ≤ 18) = true := decide_eq_true (by omega)
          by_cases q1 : more[i].a = 1
          case neg =>
            have ba : (more[i].a == 1) = false := by simpa using q1
            have qf : onlyOne more[i] = false := by simp [onlyOne, q1]
            simp only [walk, walkL, evOp, quietOp, farOp, nov, gd, rho, putT, wr, Nat.reduceAdd, Nat.reduceSub, Bool.false_eq_true, if_true, if_false, reduceIte, reduceCtorEq, walkM, Int.reduceBEq, Int.reduceBNe, Int.reduceLT, Int.reduceLE, decide_true, decide_false, eq_self, Bool.not_true, Bool.not_false, ↓ev_fa, ↓ev_field, ↓ev_load, ↓ev_store, stO_cells, List.all_cons, List.all_nil, Bool.and_self, Bool.and_true, lw, c1, at2, Int.toNat_natCast, k0, k1, b9, b18, ba, wi, ta5]
            exact W.done (skip qf _ rfl)
          have ba : (more[i].a == 1) = true := by simpa using q1
          have qf : onlyOne more[i] = true := by simp [onlyOne, isLine, q1, q9, q18]
          have isy : IsSl 8 (.islice (callC more[i] dv) 1 true) (callC more[i] dv) 1 := IsSl.mk rfl
          have pdv := IsSl.pure hok.data
          have py : pureL (callC more[i] dv) = true := by simp only [callC, pureL, V.pure, IsSl.pure hok.data, Bool.and_self]
          obtain ⟨u4, ap4, gr4, hg4, gl4, gk4⟩ := app_on (x := .islice (callC more[i] dv) 1 true) (fr := 0) (dst := some 124) (mt := pol.mt 5) h89 hcl isy (by omega) py (by simp only [callC, List.all_cons, sdv]; rfl) (by omega)
          generalize hw4 : wr H u4 = H4 at *
          simp only [callC] at ap4
          simp only [walk, walkL, evOp, quietOp, farOp, nov, gd, rho, putT, wr, Nat.reduceAdd, Nat.reduceSub, Bool.false_eq_true, if_true, if_false, reduceIte, reduceCtorEq, walkM, Int.reduceBEq, Int.reduceBNe, Int.reduceLT, Int.reduceLE, decide_true, decide_false, eq_self, Bool.not_true, Bool.not_false, ↓ev_fa, ↓ev_field, ↓ev_load, ↓ev_store, stO_cells, List.all_cons, List.all_nil, Bool.and_self, Bool.and_true, lw, c1, at2, Int.toNat_natCast, k0, k1, b9, b18, ba, wi, ta5, splice, zerosN, fillV, walkB, pureL, V.pure, Nat.reduceMul, Nat.reduceLeDiff, Nat.one_ne_zero, and_self, and_true, true_and, List.take_zero, List.drop_succ_cons, List.drop_zero, List.take_succ_cons, List.replicate_one, List.drop_nil, List.take_nil, Nat.le_refl, Nat.zero_add, Nat.zero_mul, Nat.one_mul, Nat.mul_one, Try.underlying30, ↓rdc, callC, sdv, pdv, m123, bi_append, ↓ap4, ↓hw4]
          exact W.done ⟨i + 1, ⟨k + 1, _, rfl, by omega, hg4, by rw [gk4 f2 sl2 ne2]; exact hf2, by rw [stake, qf, ← List.append_assoc]; exact hcc.app ⟨dv, [], rfl, hok, rfl⟩, by rw [stake, qf, ← List.append_assoc, List.length_append, ← hk]; rfl, by rw [List.length_append, hcl]; simp only [callC, List.length_cons, List.length_nil]; omega, pl_app hpc py, by omega⟩, by omega⟩
end Go.Proofs.Ytebbgmeomkjibaa
end
