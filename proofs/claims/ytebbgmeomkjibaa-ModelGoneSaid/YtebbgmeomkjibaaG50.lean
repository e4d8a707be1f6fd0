/- This file holds in one the texts O31, O32, PG, PT, OFb, OGb; each says at its head what it proves. -/
import Derived.Test.YtebbgmeomkjibaaG22
import Derived.Test.YtebbgmeomkjibaaG25
import Derived.Test.YtebbgmeomkjibaaG39
import Derived.Test.YtebbgmeomkjibaaG49
import Derived.Test.YtebbgmeomkjibaaRows
import Derived.ProofKit
import Derived.OpenShut
set_option linter.unusedSimpArgs false
set_option linter.unusedVariables false
section
/- model: ModelOn. -/
set_option maxRecDepth 100000
namespace Go.Proofs.Ytebbgmeomkjibaa
open Go.AM Go.Mod

attribute [local irreducible] U W

theorem CallsR.pure : ∀ {l : List MCall} {cs : List V}, CallsR cs l → pureL cs = true ∧ cs.all V.scalar = true
  | [], cs, h => by
    have : cs = [] := h
    subst this; exact ⟨rfl, rfl⟩
  | x :: l, cs, h => by
    obtain ⟨dv, d, rfl, h1, h2⟩ := h
    have := h2.pure
    have p1 := IsSl.pure h1
    have p2 := IsSl.scalar h1
    refine ⟨pl_app (by simp only [callC, pureL, V.pure, p1, Bool.and_self]) this.1, ?_⟩
    rw [List.all_append, this.2, Bool.and_true]
    simp only [callC, List.all_cons, p2]; rfl

def Gr (H : Heap) (s : V) (cs : List V) (n esz : Nat) : Prop := (s = .nilslice ∧ n = 0 ∧ cs = []) ∨ ∃ f sl, s = .gslice f sl cs n esz ∧ hget H f sl = some (.grow n) ∧ cs.length = n * esz
theorem by_call : byt Try.prog 28 = some 104 := by kernel_rfl
theorem Gr.frz {H : Heap} {s : V} {cs : List V} {n esz : Nat} (h : Gr H s cs n esz) : ∃ w, (∀ (g : Get) (m : Nat), AM.frz g (m + 1) s = some w) ∧ IsSl esz w cs n := by
  rcases h with ⟨rfl, rfl, rfl⟩ | ⟨f, sl, rfl, _, hl⟩
  · exact ⟨.nilslice, fun _ _ => rfl, IsSl.nil⟩
  · exact ⟨.islice cs n false, fun _ _ => rfl, IsSl.mk hl⟩
theorem Gr.len {H : Heap} {s : V} {cs : List V} {n esz : Nat} {u e : TypeId} {P : Program} (h : Gr H s cs n esz) (hu : P.underlying u = some (.slice e)) : ∀ g, lenV P g u s = some (.int .i64 n) := by
  intro g
  rcases h with ⟨rfl, rfl, rfl⟩ | ⟨f, sl, rfl, _, hl⟩
  · exact ln_nil hu
  · simp only [lenV, hu]
theorem app_calls {H : Heap} {s x : V} {cs ds : List V} {n m d fr : Nat} {mt : Nat → Bool} (h : Gr H s cs n 8) (hx : IsSl 8 x ds m) (hp : pureL ds = true) (hs : ds.all V.scalar = true) (hd : hget H fr d = none) (hfr : fr < H.length) (hm : mt d = false) (hn : n + m ≤ 1000) :
    ∃ s' w, appendV Try.prog mt fr (hget H) (some d) 30 30 s x = some (.val s' w) ∧ Gr (wr H w) s' (cs ++ ds) (n + m) 8 ∧ (wr H w).length = H.length ∧ (∀ e, e ≠ d → hget H fr e = none → hget (wr H w) fr e = none) := by
  cases m with
  | zero =>
    have hds : ds = [] := List.eq_nil_of_length_eq_zero (by simpa using hx.1)
    subst hds
    refine ⟨s, none, ?_, by simpa [wr] using h, rfl, fun e _ h => h⟩
    refine app_none Try.underlying30 sz28 by_call zc28 rfl Try.underlying30 ?_ (IsSl.sc hx)
    rcases h with ⟨rfl, _⟩ | ⟨f, sl, rfl, _⟩ <;> rfl
  | succ m =>
    rcases h with ⟨rfl, rfl, rfl⟩ | ⟨f, sl, rfl, hg, hl⟩
    · refine ⟨.gslice fr d ds (m + 1) 8, some (fr, d, .grow (m + 1)), ?_, .inr ⟨fr, d, by simp, ?_, by simpa using hx.1⟩, by simp [wr, hset_length], fun e he h => ?_⟩
      · rw [app_nil Try.underlying30 sz28 by_call zc28 rfl Try.underlying30 (IsSl.sc hx) (by omega) (roomy_of (by omega) (by omega)), grown_im hm hp hd]
      · simp only [wr]; rw [hget_same hfr]; simp
      · simp only [wr]; rw [hget_slot hfr he]; exact h
    · have hf := hget_lt hg
      refine ⟨.gslice f sl (cs ++ ds) (n + (m + 1)) 8, some (f, sl, .grow (n + (m + 1))), ?_, .inr ⟨f, sl, rfl, ?_, by rw [List.length_append, hl, hx.1]; omega⟩, by simp [wr, hset_length], fun e he h => ?_⟩
      · exact app_more Try.underlying30 sz28 by_call zc28 rfl Try.underlying30 (IsSl.sc hx) (by omega) (roomy_of (by omega) (by omega)) hp hs hg
      · simp only [wr]; exact hget_same hf
      · simp only [wr]
        by_cases q : fr = f ∧ e = sl
        · rw [← q.1, ← q.2, h] at hg; cases hg
        · rw [hget_ne hf q]; exact h

theorem run_small : ∀ (l : List MCall) (S : MSt) (n : Nat), StOk S n → n + l.length ≤ 1000 → ∀ r ∈ (runCalls S l).2, SmallR r
  | [], _, _, _, _, r, h => by cases h
  | c :: l, S, n, ok, hn, r, h => by
    simp only [List.length_cons] at hn
    rcases List.mem_cons.1 h with rfl | h
    · exact small_do ok (by omega) c
    · exact run_small l _ (n + 1) (stOk_do ok c) (by omega) r h
theorem RepsC.take : ∀ {a b : List MReply} {cs : List V}, RepsC cs (a ++ b) → RepsC (cs.take (a.length * 10)) a
  | [], b, cs, _ => by
    show List.take _ cs = []
    simp
  | x :: a, b, cs, h => by
    obtain ⟨c, d, rfl, h1, h2, h3⟩ := h
    refine ⟨c, d.take (a.length * 10), ?_, h1, h2, h3.take⟩
    rw [List.length_cons, show (a.length + 1) * 10 = c.length + a.length * 10 by omega, List.take_length_add_append]

theorem CallsC.app : ∀ {a b : List MCall} {cs ds : List V}, CallsC cs a → CallsC ds b → CallsC (cs ++ ds) (a ++ b)
  | [], b, cs, ds, h, h2 => by
    have : cs = [] := h
    subst this; exact h2
  | x :: a, b, cs, ds, h, h2 => by
    obtain ⟨dv, d, rfl, h1, h3⟩ := h
    exact ⟨dv, d ++ ds, by simp, h1, h3.app h2⟩
theorem great_no {l : List MCall} {most : Nat} (h : greatB l most = false) : l.length ≤ 1000 ∧ weighs (l.take 100) ≤ 30000 ∧ (l.length ≤ most ∨ 64 < l.length) := by
  unfold greatB at h
  simp only [Bool.or_eq_false_iff, Bool.and_eq_false_iff, decide_eq_false_iff_not] at h
  omega
theorem on_law (v w : V) (cs ds : List V) (l more : List MCall) (hv : IsSl 8 v cs l.length) (hw : IsSl 8 w ds more.length) (hc : CallsR cs l) (hd : CallsR ds more) : Fz Try.prog pol 4 [v, w] fun r => r = .bool true := by
  refine fz_of Try.func4 rfl ?_
  have lv := hv.len Try.underlying30
  have lw := hw.len Try.underlying30
  simp only [walk, walkL, evOp, quietOp, farOp, nov, gd, rho, putT, wr, Nat.reduceAdd, Nat.reduceSub, Bool.false_eq_true, if_true, if_false, reduceIte, reduceCtorEq, walkM, Int.reduceBEq, Int.reduceBNe, Int.reduceLT, Int.reduceLE, decide_true, decide_false, eq_self, Bool.not_true, Bool.not_false, ↓ev_fa, ↓ev_field, ↓ev_load, ↓ev_store, stO_cells, List.all_cons, List.all_nil, Bool.and_self, Bool.and_true, Try.ntmps4]
  refine W.pcall alive_fz rfl rfl rfl ?_
  rintro _ rfl
  simp only [walk, walkL, evOp, quietOp, farOp, nov, gd, rho, putT, wr, Nat.reduceAdd, Nat.reduceSub, Bool.false_eq_true, if_true, if_false, reduceIte, reduceCtorEq, walkM, Int.reduceBEq, Int.reduceBNe, Int.reduceLT, Int.reduceLE, decide_true, decide_false, eq_self, Bool.not_true, Bool.not_false, ↓ev_fa, ↓ev_field, ↓ev_load, ↓ev_store, stO_cells, List.all_cons, List.all_nil, Bool.and_self, Bool.and_true]
  refine W.pcall (great_fz v cs l hv hc 40 (by decide)) rfl rfl (frzL_cons (hv.frz _) rfl) ?_
  rintro _ rfl
  cases g1 : greatB l 40 with
  | true =>
    simp only [walk, walkL, evOp, quietOp, farOp, nov, gd, rho, putT, wr, Nat.reduceAdd, Nat.reduceSub, Bool.false_eq_true, if_true, if_false, reduceIte, reduceCtorEq, walkM, Int.reduceBEq, Int.reduceBNe, Int.reduceLT, Int.reduceLE, decide_true, decide_false, eq_self, Bool.not_true, Bool.not_false, ↓ev_fa, ↓ev_field, ↓ev_load, ↓ev_store, stO_cells, List.all_cons, List.all_nil, Bool.and_self, Bool.and_true]
    exact W.done (EndZ.ret rfl rfl rfl)
  | false =>
    simp only [walk, walkL, evOp, quietOp, farOp, nov, gd, rho, putT, wr, Nat.reduceAdd, Nat.reduceSub, Bool.false_eq_true, if_true, if_false, reduceIte, reduceCtorEq, walkM, Int.reduceBEq, Int.reduceBNe, Int.reduceLT, Int.reduceLE, decide_true, decide_false, eq_self, Bool.not_true, Bool.not_false, ↓ev_fa, ↓ev_field, ↓ev_load, ↓ev_store, stO_cells, List.all_cons, List.all_nil, Bool.and_self, Bool.and_true]
    refine W.pcall (great_fz w ds more hw hd 40 (by decide)) rfl rfl (frzL_cons (hw.frz _) rfl) ?_
    rintro _ rfl
    cases g2 : greatB more 40 with
    | true =>
      simp only [walk, walkL, evOp, quietOp, farOp, nov, gd, rho, putT, wr, Nat.reduceAdd, Nat.reduceSub, Bool.false_eq_true, if_true, if_false, reduceIte, reduceCtorEq, walkM, Int.reduceBEq, Int.reduceBNe, Int.reduceLT, Int.reduceLE, decide_true, decide_false, eq_self, Bool.not_true, Bool.not_false, ↓ev_fa, ↓ev_field, ↓ev_load, ↓ev_store, stO_cells, List.all_cons, List.all_nil, Bool.and_self, Bool.and_true]
      exact W.done (EndZ.ret rfl rfl rfl)
    | false =>
      have n1 := great_no g1
      have n2 := great_no g2
      have w1 : (IntKind.i64).wrap ((l.length : Int) + (more.length : Int)) = ((l.length + more.length : Nat) : Int) := by rw [wrap_i64] <;> omega
      by_cases h40 : 40 < l.length + more.length
      · have d1 : decide (((l.length + more.length : Nat) : Int) > 40) = true := decide_eq_true (by omega)
        simp only [walk, walkL, evOp, quietOp, farOp, nov, gd, rho, putT, wr, Nat.reduceAdd, Nat.reduceSub, Bool.false_eq_true, if_true, if_false, reduceIte, reduceCtorEq, walkM, Int.reduceBEq, Int.reduceBNe, Int.reduceLT, Int.reduceLE, decide_true, decide_false, eq_self, Bool.not_true, Bool.not_false, ↓ev_fa, ↓ev_field, ↓ev_load, ↓ev_store, stO_cells, List.all_cons, List.all_nil, Bool.and_self, Bool.and_true, lv, lw, w1, d1]
        exact W.done (EndZ.ret rfl rfl rfl)
      · have d1 : decide (((l.length + more.length : Nat) : Int) > 40) = false := decide_eq_false (by omega)
        have okc : CallsC cs l := hc.ok (by have := n1.2.1; rwa [List.take_of_length_le (by omega)] at this)
        have okd : CallsC ds more := hd.ok (by have := n2.2.1; rwa [List.take_of_length_le (by omega)] at this)
        obtain ⟨s1, u1, ap1, gr1, gl1, gk1⟩ := app_calls (H := [[]]) (s := .nilslice) (x := v) (cs := []) (n := 0) (d := 33) (fr := 0) (mt := pol.mt 4) (.inl ⟨rfl, rfl, rfl⟩) hv hc.pure.1 hc.pure.2 rfl (by decide) rfl (by omega)
        rw [List.nil_append, Nat.zero_add] at gr1
        obtain ⟨s2, u2, ap2, gr2, gl2, gk2⟩ := app_calls (H := wr [[]] u1) (s := s1) (x := w) (d := 36) (fr := 0) (mt := pol.mt 4) gr1 hw hd.pure.1 hd.pure.2 (gk1 36 (by decide) rfl) (by rw [gl1]; decide) rfl (by omega)
        obtain ⟨fr2, hf2, hs2⟩ := gr2.frz
        have l2 := gr2.len (P := Try.prog) (u := 30) Try.underlying30
        have okall : CallsC (cs ++ ds) (l ++ more) := okc.app okd
        have hsl : IsSl 8 fr2 (cs ++ ds) (l ++ more).length := by rw [List.length_append]; exact hs2
        have p1 := play_fz v cs l hv okc
        have p2 := play_fz fr2 (cs ++ ds) (l ++ more) hsl okall
        have nl : ¬ 64 < l.length := by omega
        have nl2 : ¬ 64 < (l ++ more).length := by rw [List.length_append]; omega
        simp only [nl, nl2, if_false] at p1 p2
        rw [runCalls_app] at p2
        have sm := run_small l emptySt 0 emptyOk (by omega)
        have ln1 := runCalls_len l emptySt
        have ln2 := runCalls_len more (runCalls emptySt l).1
        generalize (runCalls emptySt l).2 = ra at *
        generalize (runCalls (runCalls emptySt l).1 more).2 = rb at *
        clear gr2 gk1 gk2 gl1 gl2 gr1
        rcases u1 with _ | ⟨f1, q1, o1⟩ <;> rcases u2 with _ | ⟨f2, q2, o2⟩ <;> simp only [wr] at ap2
        all_goals
          simp only [walk, walkL, evOp, quietOp, farOp, nov, gd, rho, putT, wr, Nat.reduceAdd, Nat.reduceSub, Bool.false_eq_true, if_true, if_false, reduceIte, reduceCtorEq, walkM, Int.reduceBEq, Int.reduceBNe, Int.reduceLT, Int.reduceLE, decide_true, decide_false, eq_self, Bool.not_true, Bool.not_false, ↓ev_fa, ↓ev_field, ↓ev_load, ↓ev_store, stO_cells, List.all_cons, List.all_nil, Bool.and_self, Bool.and_true, lv, lw, w1, d1, bi_append, ↓ap1, ↓ap2]
          refine W.pcall p1 rfl rfl (frzL_cons (hv.frz _) rfl) ?_
          rintro _ ⟨av, os, rfl, ha1, ha2⟩
          simp only [walk, walkL, evOp, quietOp, farOp, nov, gd, rho, putT, wr, Nat.reduceAdd, Nat.reduceSub, Bool.false_eq_true, if_true, if_false, reduceIte, reduceCtorEq, walkM, Int.reduceBEq, Int.reduceBNe, Int.reduceLT, Int.reduceLE, decide_true, decide_false, eq_self, Bool.not_true, Bool.not_false, ↓ev_fa, ↓ev_field, ↓ev_load, ↓ev_store, stO_cells, List.all_cons, List.all_nil, Bool.and_self, Bool.and_true]
          refine W.pcall' p2 rfl rfl (frzL_cons (hf2 _ 11) rfl) ?_
          rintro _ ⟨bv, os2, rfl, hb1, hb2⟩
          have la := ha1.len Try.underlying22
          have lb := hb1.len Try.underlying22
          have eqn : (((ra ++ rb).length : Int) == ((l.length + more.length : Nat) : Int)) = true := by simp [ln1, ln2]
          obtain ⟨wv, hw1, hw2⟩ := IsSl.cut (P := Try.prog) (u := 22) (e := 36) Try.underlying22 sz36 hb1 none (some (ra.length : Int)) (by simp) (by simp only [Option.getD_some, Option.getD_none]; omega) (by simp only [Option.getD_some, List.length_append]; omega)
          simp only [Option.map_some, Option.map_none, Option.getD_some, Option.getD_none, Int.toNat_natCast, Int.toNat_zero, Nat.zero_mul, List.drop_zero, Nat.sub_zero] at hw1 hw2
          simp only [walk, walkL, evOp, quietOp, farOp, nov, gd, rho, putT, wr, Nat.reduceAdd, Nat.reduceSub, Bool.false_eq_true, if_true, if_false, reduceIte, reduceCtorEq, walkM, Int.reduceBEq, Int.reduceBNe, Int.reduceLT, Int.reduceLE, decide_true, decide_false, eq_self, Bool.not_true, Bool.not_false, ↓ev_fa, ↓ev_field, ↓ev_load, ↓ev_store, stO_cells, List.all_cons, List.all_nil, Bool.and_self, Bool.and_true, la, lb, l2, eqn, ↓hw1]
          refine W.pcall (sameAll_fz av wv ra os _ ha1 hw2 ha2 hb2.take sm (by omega)) rfl rfl (frzL_cons (ha1.frz _) (frzL_cons (hw2.frz _) rfl)) ?_
          rintro _ rfl
          simp only [walk, walkL, evOp, quietOp, farOp, nov, gd, rho, putT, wr, Nat.reduceAdd, Nat.reduceSub, Bool.false_eq_true, if_true, if_false, reduceIte, reduceCtorEq, walkM, Int.reduceBEq, Int.reduceBNe, Int.reduceLT, Int.reduceLE, decide_true, decide_false, eq_self, Bool.not_true, Bool.not_false, ↓ev_fa, ↓ev_field, ↓ev_load, ↓ev_store, stO_cells, List.all_cons, List.all_nil, Bool.and_self, Bool.and_true]
          exact W.done (EndZ.ret rfl rfl rfl)
end Go.Proofs.Ytebbgmeomkjibaa
end
section
/- ModelOn: from what the abstract machine answers to the given row. Conditions: those of the given row, no other. -/
set_option maxRecDepth 100000
namespace Go.Proofs.Ytebbgmeomkjibaa
open Go.AM Go.Mod Go.ChangeShapes Go.WideShapes Go.ChangeAt Go.RowKit

theorem reads_int {n : Nat} {t : TypeId} {k : IntKind} {xs : List V} (hu : (Try.prog).underlying t = some (.int k)) (h : Reads Try.prog n t xs) : ∃ m, xs = [.int k m] := by
  cases n with
  | zero => exact h.elim
  | succ n =>
    unfold Reads at h
    rw [hu] at h
    obtain ⟨m, h1, _⟩ := h
    exact ⟨m, h1⟩
theorem reads_str {n : Nat} {t : TypeId} {xs : List V} (hu : (Try.prog).underlying t = some .string) (h : Reads Try.prog n t xs) : ∃ s, xs = [.str s] := by
  cases n with
  | zero => exact h.elim
  | succ n =>
    unfold Reads at h
    rw [hu] at h
    obtain ⟨m, h1, _⟩ := h
    exact ⟨m, h1⟩
theorem reads_bytes {n : Nat} {t e : TypeId} {xs : List V} (hu : (Try.prog).underlying t = some (.slice e)) (he : (Try.prog).underlying e = some (.int .u8)) (h : Reads Try.prog n t xs) : ∃ v l, xs = [v] ∧ IsBytes v l := by
  cases n with
  | zero => exact h.elim
  | succ n =>
    unfold Reads at h
    rw [hu] at h
    rcases h with h | ⟨ys, h, _, h2⟩
    · exact ⟨_, [], h, IsBytes.nil⟩
    · obtain ⟨l, h3, h4⟩ := flatten_bytes he ys h2
      exact ⟨_, l, h, by rw [h3, ← h4]; exact IsBytes.mk l false⟩
theorem reads_call {n : Nat} {xs : List V} (h : Reads Try.prog n 28 xs) : ∃ c dv, xs = callC c dv ∧ IsBytes dv c.data := by
  cases n with
  | zero => exact h.elim
  | succ n =>
    unfold Reads at h
    rw [Try.underlying28] at h
    simp only [ReadsAll, List.map_cons, List.map_nil] at h
    obtain ⟨x1, r1, a1, ⟨x2, r2, a2, ⟨x3, r3, a3, ⟨x4, r4, a4, ⟨x5, r5, a5, ⟨x6, r6, a6, ⟨x7, r7, a7, ⟨x8, r8, a8, e9, rfl⟩, rfl⟩, rfl⟩, rfl⟩, rfl⟩, rfl⟩, rfl⟩, rfl⟩ := h
    obtain ⟨m1, rfl⟩ := reads_int Try.underlying5 a1
    obtain ⟨m2, rfl⟩ := reads_int Try.underlying3 a2
    obtain ⟨m3, rfl⟩ := reads_int Try.underlying3 a3
    obtain ⟨m4, rfl⟩ := reads_int Try.underlying3 a4
    obtain ⟨s5, rfl⟩ := reads_str Try.underlying9 a5
    obtain ⟨s6, rfl⟩ := reads_str Try.underlying9 a6
    obtain ⟨s7, rfl⟩ := reads_str Try.underlying9 a7
    obtain ⟨v8, l8, rfl, h8⟩ := reads_bytes Try.underlying26 Try.underlying5 a8
    subst e9
    exact ⟨⟨m1, m2, m3, m4, s5, s6, s7, l8⟩, v8, rfl, h8⟩
theorem calls_flat {n : Nat} : ∀ ys : List (List V), (∀ y ∈ ys, Reads Try.prog n 28 y) → ∃ l : List MCall, l.length = ys.length ∧ CallsR ys.flatten l
  | [], _ => ⟨[], rfl, rfl⟩
  | y :: ys, h => by
    obtain ⟨l, h1, h2⟩ := calls_flat ys fun z hz => h z (List.mem_cons_of_mem _ hz)
    obtain ⟨c, dv, rfl, h3⟩ := reads_call (h y (by simp))
    exact ⟨c :: l, by simp [h1], dv, _, rfl, h3, h2⟩
theorem arg_calls {n : Nat} {y : V} (h : ArgRead Try.prog n 30 y) : ∃ l cs, IsSl 8 y cs l.length ∧ CallsR cs l := by
  unfold ArgRead at h
  rw [Try.underlying30] at h
  cases n with
  | zero => exact h.elim
  | succ n =>
    simp only [Reads, Try.underlying30] at h
    rcases h with h | ⟨ys, h, _, h2⟩
    · cases h; exact ⟨[], [], IsSl.nil, rfl⟩
    · cases h
      obtain ⟨l, h3, h4⟩ := calls_flat ys h2
      refine ⟨l, ys.flatten, ?_, h4⟩
      rw [← h3]
      exact IsSl.mk h4.len

theorem frz_true {g : Get} {n : Nat} {v : V} (h : frz g (n + 1) v = some (.bool true)) : v = .bool true := by
  cases v with
  | bool b => simp only [frz] at h; cases h; rfl
  | _ => exfalso; simp only [frz] at h; revert h; (repeat' split) <;> simp
theorem fz_true {f : FuncId} {xs : List V} (h : Fz Try.prog pol f xs fun r => r = .bool true) : ∃ H', callW Try.prog pol f xs [] = some (.ret (.bool true), H') := by
  obtain ⟨v, H', v', h1, h2, rfl⟩ := h
  exact ⟨H', by rw [h1, frz_true h2]⟩

theorem on_args : ∀ xs, ArgsRead Try.prog [30, 30] xs → ∃ H', callW Try.prog pol 4 xs [] = some (.ret (.bool true), H') := by
  intro xs h
  obtain ⟨n1, y1, r1, a1, ⟨n2, y2, r2, a2, rfl, rfl⟩, rfl⟩ := h
  obtain ⟨l, cs, h1, h2⟩ := arg_calls a1
  obtain ⟨more, ds, h3, h4⟩ := arg_calls a2
  exact fz_true (on_law y1 y2 cs ds l more h1 h3 h2 h4)

theorem modelOn_own : ownKnob Try.prog.godebug = none := by kernel_rfl
theorem modelOn_lifted (os : Os) (started : os.Started) (H : Type) (enc : TypeId × Value → H) :
    ReturnsInHanded {} Try.checked os 4 .any (Rows.modelOnSpec.pre6 enc Try.prog Try.f4 Rows.modelOnRow.domain false) (Rows.modelOnSpec.post enc Try.prog Try.f4 false true false false) := by
  refine returnsInHanded_of_change (C := Try.checked) modelOn_own started (by kernel_rfl) Try.func4
    (ChangeSpec.witness6 (enc := enc) (C := Try.checked) false ⟨#[], #[.slice none 0 0, .slice none 0 0], []⟩ 8 (by kernel_rfl) (by kernel_rfl) (by kernel_rfl) (by kernel_rfl)) ?_
  intro W base args ds gs before hval hW _ _
  exact law_contract (ts := [30, 30]) (tb := 4) (book := [30, 28, 5, 3, 9, 26]) ok (by kernel_rfl) (congrArg Array.toList Try.params4) (by kernel_rfl) Try.underlying4 (by kernel_rfl) (by kernel_rfl) (s := Rows.modelOnSpec) rfl
    (fun ds hd => by
      match ds, hd with
      | [_, _], _ => exact ⟨rfl, rfl, rfl⟩)
    on_args hval hW

theorem modelOn_holds : Rows.ModelOnSaid :=
  OpenClaim.holds_of_wide 4 Try.f4 rfl rfl rfl rfl rfl rfl rfl ⟨rfl, rfl, rfl, rfl, rfl⟩ rfl rfl rfl rfl rfl (by kernel_rfl) Try.func4 (by kernel_rfl)
    (of_decide_eq_true (by kernel_rfl)) (by unfold Func.isWrapper; first | (rw [if_pos (by decide +kernel)]; kernel_rfl) | (rw [if_neg (by decide +kernel)]; exact ⟨rfl, rfl⟩))
    (fun os started H enc _ => modelOn_lifted os started H enc)
#print axioms modelOn_holds
end Go.Proofs.Ytebbgmeomkjibaa
end
section
/- The model in plain words: ids rise, and what was destroyed is gone. -/
namespace Go.Mod

theorem promFrom_ids (was a : Int) : ∀ (k : Nat) (l : List (Int × MLine)) (i : Int), ids (promFrom was a k l i) = ids l
  | 0, _, _ => rfl
  | k + 1, l, i => by
    simp only [promFrom]
    split
    · rfl
    · split
      · rfl
      · split
        · rw [promFrom_ids, putL_ids]
        · rfl
theorem dropL_ids (l : List (Int × MLine)) (i : Int) (hu : (ids l).Nodup) : ids (dropL l i) = (ids l).filter fun x => x ≠ i := by
  induction l with
  | nil => rfl
  | cons p l ih =>
    simp only [ids, List.map_cons, List.nodup_cons] at hu
    simp only [dropL]
    by_cases e : i = p.1
    · rw [if_pos e]
      simp only [ids, List.map_cons]
      rw [List.filter_cons_of_neg (by simp [e]), List.filter_eq_self.2]
      · intro x hx
        simp only [ne_eq, decide_eq_true_eq]
        rintro rfl
        exact hu.1 (e ▸ hx)
    · rw [if_neg e]
      simp only [ids, List.map_cons] at ih ⊢
      rw [List.filter_cons_of_pos (by simpa using fun h => e h.symm), ih hu.2]
theorem filter_ne_len {l : List Int} (hu : l.Nodup) {a : Int} (h : a ∈ l) : (l.filter fun x => x ≠ a).length + 1 = l.length := by
  induction l with
  | nil => cases h
  | cons x l ih =>
    rw [List.nodup_cons] at hu
    by_cases e : x = a
    · subst e
      rw [List.filter_cons_of_neg (by simp), List.filter_eq_self.2]
      · rfl
      · intro y hy
        simp only [ne_eq, decide_eq_true_eq]
        rintro rfl
        exact hu.1 hy
    · rw [List.filter_cons_of_pos (by simpa using e)]
      rcases List.mem_cons.1 h with h | h
      · exact absurd h.symm e
      · rw [List.length_cons, ih hu.2 h, List.length_cons]
theorem lineOf_ids {l : List (Int × MLine)} {i : Int} {L : MLine} (h : lineOf l i = some L) : i ∈ ids l := List.mem_map.2 ⟨_, lineOf_mem h, rfl⟩
theorem turn_id (L : MLine) (e : Int) (L' : MLine) : (L.turn e L').2.id = 0 := by
  unfold MLine.turn; split <;> rfl
theorem add_id (L : MLine) (s : Bytes) (o : MObj) : (L.add s o).2.id = 0 := by
  unfold MLine.add; split <;> rfl
theorem lineDo_id (k : Int) (L : MLine) (c : MCall) : (lineDo k L c).2.id = 0 := by
  unfold lineDo
  split
  · exact add_id _ _ _
  · split
    · unfold MLine.point; split
      · rfl
      · exact add_id _ _ _
    · split
      · exact turn_id _ _ _
      · split
        · exact turn_id _ _ _
        · split
          · exact turn_id _ _ _
          · split
            · unfold MLine.read; split
              · rfl
              · split <;> rfl
            · split
              · unfold MLine.write; split
                · rfl
                · exact turn_id _ _ _
              · split
                · unfold MLine.cut; split
                  · rfl
                  · exact turn_id _ _ _
                · split
                  · unfold MLine.stat; split <;> rfl
                  · rfl
inductive GoneR (S : MSt) (c : MCall) : MSt → MReply → Prop
  | same {S' r} (h1 : r.id = 0) (h2 : c.kind = 6 → r.err ≠ 0) (h3 : S'.last = S.last) (h4 : ids S'.lines = ids S.lines) : GoneR S c S' r
  | more {S' r} (h1 : r.id = S.last + 1) (h2 : c.kind ≠ 6) (h3 : S'.last = S.last + 1) (h4 : ids S'.lines = ids S.lines ++ [S.last + 1]) : GoneR S c S' r
  | less {S' r} (h1 : r.id = 0) (h2 : c.kind = 6) (h5 : r.err = 0) (h3 : S'.last = S.last) (h4 : ids S'.lines = (ids S.lines).filter fun x => x ≠ c.a) (h6 : c.a ∈ ids S.lines) : GoneR S c S' r
theorem gone_fail {S : MSt} {c : MCall} {e : Int} (h : c.kind = 6 → e ≠ 0) : GoneR S c S (fail e) := .same rfl h rfl rfl
theorem gone_r {S : MSt} {n : Nat} (ok : StOk S n) (c : MCall) : GoneR S c (doCall S c).1 (doCall S c).2 := by
  unfold doCall
  split
  · unfold houseDo
    split
    · rename_i k
      have k6 : c.kind ≠ 6 := by omega
      unfold hSet; split
      · exact gone_fail (fun h => absurd h k6)
      · exact .more rfl k6 rfl (by simp [ids])
    · split
      · rename_i k
        have k6 : c.kind ≠ 6 := by omega
        unfold hSnap; split
        · exact gone_fail (fun h => absurd h k6)
        · split
          · exact gone_fail (fun h => absurd h k6)
          · exact .more rfl k6 rfl (by simp only [putL_ids]; simp [ids])
      · split
        · rename_i k
          have k6 : c.kind ≠ 6 := by omega
          unfold hClone; split
          · exact gone_fail (fun h => absurd h k6)
          · split
            · exact gone_fail (fun h => absurd h k6)
            · exact .more rfl k6 rfl (by simp [ids])
        · split
          · rename_i k
            have k6 : c.kind ≠ 6 := by omega
            unfold hPromote; split
            · exact gone_fail (fun h => absurd h k6)
            · split
              · exact gone_fail (fun h => absurd h k6)
              · split
                · exact gone_fail (fun h => absurd h k6)
                · exact .same rfl (fun h => absurd h k6) rfl (promFrom_ids _ _ _ _ _)
          · split
            · rename_i k
              have k6 : c.kind ≠ 6 := by omega
              unfold hRoll; split
              · exact gone_fail (fun h => absurd h k6)
              · split
                · exact gone_fail (fun h => absurd h k6)
                · split
                  · exact gone_fail (fun h => absurd h k6)
                  · split
                    · exact gone_fail (fun h => absurd h k6)
                    · exact .same rfl (fun h => absurd h k6) rfl (putL_ids _ _ _)
            · split
              · rename_i k
                unfold hDestroy; split
                · exact gone_fail (fun _ => by decide)
                · rename_i L hL
                  split
                  · exact gone_fail (fun _ => by decide)
                  · refine .less rfl k rfl rfl ?_ (lineOf_ids hL)
                    show ids (dropL _ _) = _
                    rw [dropL_ids _ _ (by rw [rePrev_ids]; exact ok.uniq), rePrev_ids]
              · rename_i k6
                split
                · unfold hLoad; split
                  · exact gone_fail (fun h => absurd h k6)
                  · split
                    · exact gone_fail (fun h => absurd h k6)
                    · split
                      · exact gone_fail (fun h => absurd h k6)
                      · exact .same rfl (fun h => absurd h k6) rfl rfl
                · split
                  · unfold hUnload; split
                    · exact gone_fail (fun h => absurd h k6)
                    · split
                      · exact gone_fail (fun h => absurd h k6)
                      · exact .same rfl (fun h => absurd h k6) rfl rfl
                  · split
                    · exact .same rfl (fun h => absurd h k6) rfl rfl
                    · split
                      · unfold hCommit; split <;> exact gone_fail (fun h => absurd h k6)
                      · exact gone_fail (fun h => absurd h k6)
  · rename_i hh
    split
    · exact gone_fail (fun _ => by decide)
    · have k6 : c.kind ≠ 6 := by
        rintro h
        rw [h] at hh
        exact hh rfl
      split
      · exact gone_fail (fun h => absurd h k6)
      · split
        · exact gone_fail (fun h => absurd h k6)
        · split
          · exact gone_fail (fun h => absurd h k6)
          · exact .same (lineDo_id _ _ _) (fun h => absurd h k6) rfl (putL_ids _ _ _)
theorem rise_do {S : MSt} {n : Nat} (ok : StOk S n) (h : (ids S.lines).Pairwise (· < ·)) (c : MCall) : (ids (doCall S c).1.lines).Pairwise (· < ·) := by
  cases gone_r ok c with
  | same h1 h2 h3 h4 => rw [h4]; exact h
  | more h1 h2 h3 h4 =>
    rw [h4, List.pairwise_append]
    refine ⟨h, List.pairwise_singleton _ _, fun a ha b hb => ?_⟩
    obtain ⟨p, hp, rfl⟩ := List.mem_map.1 ha
    have := ok.id1 p hp
    simp only [List.mem_singleton] at hb
    omega
  | less h1 h2 h5 h3 h4 h6 => rw [h4]; exact h.sublist List.filter_sublist
theorem sortZ_rise {l : List Int} (h : l.Pairwise (· < ·)) : Go.AM.sortZ l = l := by
  refine (List.Perm.eq_of_pairwise (le := fun a b => Go.AM.leZ a b = true) (fun a b _ _ h1 h2 => ?_) (Go.AM.sortZ_sorted l) (h.imp fun {a b} q => ?_) (Go.AM.sortZ_perm l))
  · simp only [Go.AM.leZ, decide_eq_true_eq] at h1 h2; omega
  · simp only [Go.AM.leZ, decide_eq_true_eq]; omega
end Go.Mod
end
section
/- The model in plain words: what a snapshot tells stays under calls on another line. -/
namespace Go.Mod

def SameLine (i : Int) (S S' : MSt) : Prop := lineOf S.lines i = lineOf S'.lines i ∧ S.keys = S'.keys
theorem SameLine.trans {i : Int} {S T R : MSt} (h : SameLine i S T) (g : SameLine i T R) : SameLine i S R := ⟨h.1.trans g.1, h.2.trans g.2⟩
theorem SameLine.symm {i : Int} {S T : MSt} (h : SameLine i S T) : SameLine i T S := ⟨h.1.symm, h.2.symm⟩
end Go.Mod
end
section
/- facts on types, a bundle a function: by a program of ours. -/
namespace Go.Proofs.Ytebbgmeomkjibaa
open Go.AM
abbrev ta6 := And.intro @sz3 <| And.intro @zc3 <| And.intro @rd3 <| And.intro @sz5 <| And.intro @zc5 <| And.intro @rd5 <| And.intro @sz9 <| And.intro @zc9 <| And.intro @rd9 <| And.intro @ln9 <| And.intro @sz22 <| And.intro @zc22 <| And.intro @rd22 <| And.intro @ln22 <| And.intro @lnn22 <| And.intro @sz23 <| And.intro @zc23 <| And.intro @rd23 <| And.intro @sz26 <| And.intro @zc26 <| And.intro @rd26 <| And.intro @ln26 <| And.intro @lnn26 <| And.intro @sz28 <| And.intro @zc28 <| And.intro @rd28 <| And.intro @fo28_0 <| And.intro @ff28_0 <| And.intro @fo28_1 <| And.intro @ff28_1 <| And.intro @fo28_2 <| And.intro @ff28_2 <| And.intro @fo28_3 <| And.intro @ff28_3 <| And.intro @fo28_4 <| And.intro @ff28_4 <| And.intro @fo28_5 <| And.intro @ff28_5 <| And.intro @fo28_6 <| And.intro @ff28_6 <| And.intro @fo28_7 <| And.intro @ff28_7 <| And.intro @bv28 <| And.intro @sz30 <| And.intro @zc30 <| And.intro @rd30 <| And.intro @ln30 <| And.intro @lnn30 <| And.intro @sz31 <| And.intro @zc31 <| And.intro @rd31 <| And.intro @ln31 <| And.intro @lnn31 <| And.intro @sz33 <| And.intro @zc33 <| And.intro @rd33 <| And.intro @fo33_0 <| And.intro @ff33_0 <| And.intro @fo33_1 <| And.intro @ff33_1 <| And.intro @fo33_2 <| And.intro @ff33_2 <| And.intro @fo33_3 <| And.intro @ff33_3 <| And.intro @fo33_4 <| And.intro @ff33_4 <| And.intro @bv33 <| And.intro @sz34 <| And.intro @zc34 <| And.intro @rd34 <| And.intro @ln34 <| And.intro @lnn34 <| And.intro @sz36 <| And.intro @zc36 <| And.intro @rd36 <| And.intro @fo36_0 <| And.intro @ff36_0 <| And.intro @fo36_1 <| And.intro @ff36_1 <| And.intro @fo36_2 <| And.intro @ff36_2 <| And.intro @fo36_3 <| And.intro @ff36_3 <| And.intro @fo36_4 <| And.intro @ff36_4 <| And.intro @fo36_5 <| And.intro @ff36_5 <| @bv36
end Go.Proofs.Ytebbgmeomkjibaa
end
section
/- loops' states: by a program of ours. -/
namespace Go.Proofs.Ytebbgmeomkjibaa
open Go.AM
def st6_12 (v0 v5 v7 v8 v9 : V) : List V := [v0, .bad, .bad, .bad, .bad, v5, .bad, v7, v8, v9, .bad, .bad, .bad, .bad, .bad, .bad, .bad, .bad, .bad, .bad, .bad, .bad, .bad, .bad, .bad, .bad, .bad, .bad, .bad, .bad, .bad, .bad, .bad, .bad, .bad, .bad, .bad, .bad, .bad, .bad, .bad, .bad, .bad, .bad, .bad, .bad, .bad, .bad, .bad, .bad, .bad, .bad, .bad, .bad, .bad, .bad, .bad, .bad, .bad, .bad, .bad, .bad, .bad, .bad, .bad, .bad, .bad, .bad, .bad, .bad, .bad, .bad, .bad, .bad, .bad, .bad, .bad, .bad, .bad, .bad, .bad, .bad, .bad, .bad, .bad, .bad, .bad, .bad, .bad, .bad, .bad, .bad, .bad, .bad, .bad, .bad, .bad, .bad, .bad, .bad, .bad, .bad, .bad, .bad, .bad, .bad, .bad, .bad, .bad, .bad, .bad, .bad, .bad, .bad, .bad, .bad, .bad, .bad, .bad, .bad, .bad, .bad, .bad, .bad, .bad, .bad, .bad, .bad, .bad, .bad, .bad, .bad, .bad, .bad, .bad, .bad, .bad, .bad, .bad, .bad, .bad, .bad]
def st6_22 (v0 v5 v7 v8 v9 v10 v11 : V) : List V := [v0, .bad, .bad, .bad, .bad, v5, .bad, v7, v8, v9, v10, v11, .bad, .bad, .bad, .bad, .bad, .bad, .bad, .bad, .bad, .bad, .bad, .bad, .bad, .bad, .bad, .bad, .bad, .bad, .bad, .bad, .bad, .bad, .bad, .bad, .bad, .bad, .bad, .bad, .bad, .bad, .bad, .bad, .bad, .bad, .bad, .bad, .bad, .bad, .bad, .bad, .bad, .bad, .bad, .bad, .bad, .bad, .bad, .bad, .bad, .bad, .bad, .bad, .bad, .bad, .bad, .bad, .bad, .bad, .bad, .bad, .bad, .bad, .bad, .bad, .bad, .bad, .bad, .bad, .bad, .bad, .bad, .bad, .bad, .bad, .bad, .bad, .bad, .bad, .bad, .bad, .bad, .bad, .bad, .bad, .bad, .bad, .bad, .bad, .bad, .bad, .bad, .bad, .bad, .bad, .bad, .bad, .bad, .bad, .bad, .bad, .bad, .bad, .bad, .bad, .bad, .bad, .bad, .bad, .bad, .bad, .bad, .bad, .bad, .bad, .bad, .bad, .bad, .bad, .bad, .bad, .bad, .bad, .bad, .bad, .bad, .bad, .bad, .bad, .bad, .bad]
def st6_31 (v8 v12 v13 : V) : List V := [.bad, .bad, .bad, .bad, .bad, .bad, .bad, .bad, v8, .bad, .bad, .bad, v12, v13, .bad, .bad, .bad, .bad, .bad, .bad, .bad, .bad, .bad, .bad, .bad, .bad, .bad, .bad, .bad, .bad, .bad, .bad, .bad, .bad, .bad, .bad, .bad, .bad, .bad, .bad, .bad, .bad, .bad, .bad, .bad, .bad, .bad, .bad, .bad, .bad, .bad, .bad, .bad, .bad, .bad, .bad, .bad, .bad, .bad, .bad, .bad, .bad, .bad, .bad, .bad, .bad, .bad, .bad, .bad, .bad, .bad, .bad, .bad, .bad, .bad, .bad, .bad, .bad, .bad, .bad, .bad, .bad, .bad, .bad, .bad, .bad, .bad, .bad, .bad, .bad, .bad, .bad, .bad, .bad, .bad, .bad, .bad, .bad, .bad, .bad, .bad, .bad, .bad, .bad, .bad, .bad, .bad, .bad, .bad, .bad, .bad, .bad, .bad, .bad, .bad, .bad, .bad, .bad, .bad, .bad, .bad, .bad, .bad, .bad, .bad, .bad, .bad, .bad, .bad, .bad, .bad, .bad, .bad, .bad, .bad, .bad, .bad, .bad, .bad, .bad, .bad, .bad]
end Go.Proofs.Ytebbgmeomkjibaa
end
