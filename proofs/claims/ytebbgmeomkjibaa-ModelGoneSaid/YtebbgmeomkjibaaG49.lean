/- This file holds in one the texts O28, O29, PS3, O30; each says at its head what it proves. -/
import Derived.Test.YtebbgmeomkjibaaG39
import Derived.Test.YtebbgmeomkjibaaG48
set_option linter.unusedSimpArgs false
set_option linter.unusedVariables false
section
/- model: the reference's Great, Same, SameAll. -/
set_option maxRecDepth 100000
namespace Go.Proofs.Ytebbgmeomkjibaa
open Go.AM Go.Mod

attribute [local irreducible] U W

def CallsR : List V → List MCall → Prop
  | cs, [] => cs = []
  | cs, m :: ms => ∃ dv d, cs = callC m dv ++ d ∧ IsBytes dv m.data ∧ CallsR d ms
theorem CallsR.len : ∀ {ms : List MCall} {cs : List V}, CallsR cs ms → cs.length = ms.length * 8
  | [], cs, h => by
    have : cs = [] := h
    subst this; rfl
  | x :: rs, cs, h => by
    obtain ⟨dv, d, rfl, h1, h2⟩ := h
    have := h2.len
    simp only [List.length_append, List.length_cons, List.length_nil, callC]; omega
theorem CallsR.at_ : ∀ {ms : List MCall} {cs : List V} {i : Nat} {m : MCall}, CallsR cs ms → ms[i]? = some m → ∃ dv, (cs.drop (i * 8)).take 8 = callC m dv ∧ IsBytes dv m.data
  | [], cs, i, r, h, hi => by simp at hi
  | x :: rs, cs, 0, r, h, hi => by
    obtain ⟨dv, d, rfl, h1, h2⟩ := h
    simp only [List.getElem?_cons_zero, Option.some.injEq] at hi
    subst hi
    exact ⟨dv, by rfl, h1⟩
  | x :: rs, cs, i + 1, r, h, hi => by
    obtain ⟨dv, d, rfl, h1, h2⟩ := h
    simp only [List.getElem?_cons_succ] at hi
    rw [show (i + 1) * 8 = (callC x dv).length + i * 8 by simp [callC]; omega, ← List.drop_drop, List.drop_left]
    exact CallsR.at_ h2 hi
theorem CallsR.app : ∀ {a b : List MCall} {cs ds : List V}, CallsR cs a → CallsR ds b → CallsR (cs ++ ds) (a ++ b)
  | [], b, cs, ds, h, h2 => by
    have : cs = [] := h
    subst this; exact h2
  | x :: a, b, cs, ds, h, h2 => by
    obtain ⟨dv, d, rfl, h1, h3⟩ := h
    exact ⟨dv, d ++ ds, by simp, h1, h3.app h2⟩
def weigh (c : MCall) : Nat := min c.data.length 100000 + min c.name.length 100000 + min c.as_.length 100000 + min c.text.length 100000
def weighs (l : List MCall) : Nat := (l.map weigh).sum
def greatB (l : List MCall) (most : Nat) : Bool := (decide (most < l.length) && decide (l.length ≤ 64)) || decide (1000 < l.length) || decide (30000 < weighs (l.take 100))
theorem CallsR.ok : ∀ {l : List MCall} {cs : List V}, CallsR cs l → weighs l ≤ 30000 → CallsC cs l
  | [], cs, h, _ => h
  | x :: l, cs, h, hw => by
    obtain ⟨dv, d, rfl, h1, h3⟩ := h
    simp only [weighs, List.map_cons, List.sum_cons] at hw
    have hx : weigh x ≤ 30000 := by omega
    unfold weigh at hx
    exact ⟨dv, d, rfl, ⟨h1, by omega, by omega, by omega, by omega⟩, h3.ok (by unfold weighs; omega)⟩
theorem min_i (n : Nat) : (if (100000 : Int) < (n : Int) then (100000 : Int) else (n : Int)) = ((min n 100000 : Nat) : Int) := by split <;> omega

theorem cell_of {cs : List V} {o k : Nat} {ds : List V} (h : (cs.drop o).take k = ds) {j : Nat} (hj : j < k) : cs[o + j]? = ds[j]? := by
  rw [← h, List.getElem?_take, if_pos hj, List.getElem?_drop]
theorem w64_nat {a b : Nat} (h : a + b ≤ 1000000000) : (IntKind.i64).wrap ((a : Int) + (b : Int)) = ((a + b : Nat) : Int) := by rw [wrap_i64] <;> omega
set_option maxHeartbeats 4000000 in
theorem great_fz (v : V) (cs : List V) (l : List MCall) (hv : IsSl 8 v cs l.length) (hc : CallsR cs l) (most : Nat) (hm : most ≤ 1000) : Fz Try.prog pol 10 [v, .int .i64 most] fun r => r = .bool (greatB l most) := by
  refine fz_of Try.func10 rfl ?_
  have len := hv.len Try.underlying30
  simp only [walk, walkL, evOp, quietOp, farOp, nov, gd, rho, putT, wr, Nat.reduceAdd, Nat.reduceSub, Bool.false_eq_true, if_true, if_false, reduceIte, reduceCtorEq, walkM, Int.reduceBEq, Int.reduceBNe, Int.reduceLT, Int.reduceLE, decide_true, decide_false, eq_self, Bool.not_true, Bool.not_false, ↓ev_fa, ↓ev_field, ↓ev_load, ↓ev_store, stO_cells, List.all_cons, List.all_nil, Bool.and_self, Bool.and_true, Try.ntmps10, len]
  refine W.ul ?_
  refine W.loopS (kt := [0, 1, 5, 6]) rfl (fun i : Nat => st10_3 v (.int .i64 most) (.int .i64 (weighs (l.take i))) (.int .i64 i)) (fun _ => [[]]) (fun i => i ≤ l.length ∧ i ≤ 100 ∧ weighs (l.take i) ≤ i * 400000) (fun i => 100 - i) ?_ 0 ⟨by omega, by omega, by simp [weighs]⟩ rfl rfl
  rintro i ⟨hi1, hi2, hi3⟩
  simp only [st10_3]
  have fin : i = l.length ∨ i = 100 → weighs (l.take i) = weighs (l.take 100) := by
    rintro (h | h)
    · subst h
      rw [List.take_of_length_le (Nat.le_refl _), List.take_of_length_le hi2]
    · subst h; rfl
  by_cases h : i < l.length
  · have c1 : decide ((i : Int) < l.length) = true := decide_eq_true (by omega)
    by_cases h2 : i < 100
    · have c2 : decide ((i : Int) < 100) = true := decide_eq_true (by omega)
      have at1 := hv.at (k := .i64) Try.underlying30 sz28 (by decide) (i := (i : Int)) (by omega) (by omega)
      obtain ⟨dv, hcell, hok⟩ := hc.at_ (List.getElem?_eq_getElem h)
      have f7 : cs[i * 8 + 7]? = some dv := cell_of hcell (by decide)
      have f4 : cs[i * 8 + 4]? = some (.str l[i].name) := cell_of hcell (by decide)
      have f5 : cs[i * 8 + 5]? = some (.str l[i].as_) := cell_of hcell (by decide)
      have f6 : cs[i * 8 + 6]? = some (.str l[i].text) := cell_of hcell (by decide)
      have ld := hok.len Try.underlying26
      have wA := w64_nat (a := min l[i].data.length 100000) (b := min l[i].name.length 100000) (by omega)
      have wB := w64_nat (a := min l[i].data.length 100000 + min l[i].name.length 100000) (b := min l[i].as_.length 100000) (by omega)
      have wC := w64_nat (a := min l[i].data.length 100000 + min l[i].name.length 100000 + min l[i].as_.length 100000) (b := min l[i].text.length 100000) (by omega)
      have wD := w64_nat (a := weighs (l.take i)) (b := min l[i].data.length 100000 + min l[i].name.length 100000 + min l[i].as_.length 100000 + min l[i].text.length 100000) (by omega)
      have wE := w64_nat (a := i) (b := 1) (by omega)
      have wt : weighs (l.take (i + 1)) = weighs (l.take i) + (min l[i].data.length 100000 + min l[i].name.length 100000 + min l[i].as_.length 100000 + min l[i].text.length 100000) := by
        unfold weighs
        rw [List.take_add_one, List.getElem?_eq_getElem h, Option.toList_some, List.map_append, List.sum_append]
        simp [weigh]
      have ia1 : ∀ j, cs[(i : Int).toNat * 8 + j]? = cs[i * 8 + j]? := fun j => rfl
      simp only [walk, walkL, evOp, quietOp, farOp, nov, gd, rho, putT, wr, Nat.reduceAdd, Nat.reduceSub, Bool.false_eq_true, if_true, if_false, reduceIte, reduceCtorEq, walkM, Int.reduceBEq, Int.reduceBNe, Int.reduceLT, Int.reduceLE, decide_true, decide_false, eq_self, Bool.not_true, Bool.not_false, ↓ev_fa, ↓ev_field, ↓ev_load, ↓ev_store, stO_cells, List.all_cons, List.all_nil, Bool.and_self, Bool.and_true, len, c1, c2, ta10, at1, Int.toNat_natCast, f7, f4, f5, f6, ld, min_i, wA, wB, wC, wD]
      refine W.opsK (by kernel_rfl) ?_
      have wE' : (IntKind.i64).wrap ((i : Int) + 1) = ((i + 1 : Nat) : Int) := wE
      simp only [walk, walkL, evOp, quietOp, farOp, nov, gd, rho, putT, wr, Nat.reduceAdd, Nat.reduceSub, Bool.false_eq_true, if_true, if_false, reduceIte, reduceCtorEq, walkM, Int.reduceBEq, Int.reduceBNe, Int.reduceLT, Int.reduceLE, decide_true, decide_false, eq_self, Bool.not_true, Bool.not_false, ↓ev_fa, ↓ev_field, ↓ev_load, ↓ev_store, stO_cells, List.all_cons, List.all_nil, Bool.and_self, Bool.and_true, wE']
      exact W.done ⟨i + 1, by rw [wt]; rfl, rfl, ⟨by omega, by omega, by rw [wt]; omega⟩, by omega⟩
    · have c2 : decide ((i : Int) < 100) = false := decide_eq_false (by omega)
      have e : i = 100 := by omega
      have hf := fin (.inr e)
      simp only [walk, walkL, evOp, quietOp, farOp, nov, gd, rho, putT, wr, Nat.reduceAdd, Nat.reduceSub, Bool.false_eq_true, if_true, if_false, reduceIte, reduceCtorEq, walkM, Int.reduceBEq, Int.reduceBNe, Int.reduceLT, Int.reduceLE, decide_true, decide_false, eq_self, Bool.not_true, Bool.not_false, ↓ev_fa, ↓ev_field, ↓ev_load, ↓ev_store, stO_cells, List.all_cons, List.all_nil, Bool.and_self, Bool.and_true, len, c1, c2]
      refine W.done ?_
      simp only
      rw [hf]
      have d1 : decide ((l.length : Int) > (most : Int)) = decide (most < l.length) := by
        by_cases q : most < l.length
        · rw [decide_eq_true q]; exact decide_eq_true (by omega)
        · rw [decide_eq_false q]; exact decide_eq_false (by omega)
      have d2 : decide ((l.length : Int) ≤ 64) = decide (l.length ≤ 64) := by
        by_cases q : l.length ≤ 64
        · rw [decide_eq_true q]; exact decide_eq_true (by omega)
        · rw [decide_eq_false q]; exact decide_eq_false (by omega)
      have d3 : decide ((l.length : Int) > 1000) = decide (1000 < l.length) := by
        by_cases q : 1000 < l.length
        · rw [decide_eq_true q]; exact decide_eq_true (by omega)
        · rw [decide_eq_false q]; exact decide_eq_false (by omega)
      have d4 : decide ((weighs (l.take 100) : Int) > 30000) = decide (30000 < weighs (l.take 100)) := by
        by_cases q : 30000 < weighs (l.take 100)
        · rw [decide_eq_true q]; exact decide_eq_true (by omega)
        · rw [decide_eq_false q]; exact decide_eq_false (by omega)
      have gb : greatB l most = ((decide (most < l.length) && decide (l.length ≤ 64)) || decide (1000 < l.length) || decide (30000 < weighs (l.take 100))) := rfl
      generalize decide (most < l.length) = b1 at *
      generalize decide (l.length ≤ 64) = b2 at *
      generalize decide (1000 < l.length) = b3 at *
      generalize decide (30000 < weighs (l.take 100)) = b4 at *
      cases b1 <;> cases b2 <;> cases b3 <;> cases b4
      all_goals
        simp only [walk, walkL, evOp, quietOp, farOp, nov, gd, rho, putT, wr, Nat.reduceAdd, Nat.reduceSub, Bool.false_eq_true, if_true, if_false, reduceIte, reduceCtorEq, walkM, Int.reduceBEq, Int.reduceBNe, Int.reduceLT, Int.reduceLE, decide_true, decide_false, eq_self, Bool.not_true, Bool.not_false, ↓ev_fa, ↓ev_field, ↓ev_load, ↓ev_store, stO_cells, List.all_cons, List.all_nil, Bool.and_self, Bool.and_true, len, d1, d2, d3, d4]
        exact W.done (EndZ.ret rfl rfl (by rw [gb]; rfl))
  · have c1 : decide ((i : Int) < l.length) = false := decide_eq_false (by omega)
    have e : i = l.length := by omega
    have hf := fin (.inl e)
    simp only [walk, walkL, evOp, quietOp, farOp, nov, gd, rho, putT, wr, Nat.reduceAdd, Nat.reduceSub, Bool.false_eq_true, if_true, if_false, reduceIte, reduceCtorEq, walkM, Int.reduceBEq, Int.reduceBNe, Int.reduceLT, Int.reduceLE, decide_true, decide_false, eq_self, Bool.not_true, Bool.not_false, ↓ev_fa, ↓ev_field, ↓ev_load, ↓ev_store, stO_cells, List.all_cons, List.all_nil, Bool.and_self, Bool.and_true, len, c1]
    refine W.done ?_
    simp only
    rw [hf]
    have d1 : decide ((l.length : Int) > (most : Int)) = decide (most < l.length) := by
      by_cases q : most < l.length
      · rw [decide_eq_true q]; exact decide_eq_true (by omega)
      · rw [decide_eq_false q]; exact decide_eq_false (by omega)
    have d2 : decide ((l.length : Int) ≤ 64) = decide (l.length ≤ 64) := by
      by_cases q : l.length ≤ 64
      · rw [decide_eq_true q]; exact decide_eq_true (by omega)
      · rw [decide_eq_false q]; exact decide_eq_false (by omega)
    have d3 : decide ((l.length : Int) > 1000) = decide (1000 < l.length) := by
      by_cases q : 1000 < l.length
      · rw [decide_eq_true q]; exact decide_eq_true (by omega)
      · rw [decide_eq_false q]; exact decide_eq_false (by omega)
    have d4 : decide ((weighs (l.take 100) : Int) > 30000) = decide (30000 < weighs (l.take 100)) := by
      by_cases q : 30000 < weighs (l.take 100)
      · rw [decide_eq_true q]; exact decide_eq_true (by omega)
      · rw [decide_eq_false q]; exact decide_eq_false (by omega)
    have gb : greatB l most = ((decide (most < l.length) && decide (l.length ≤ 64)) || decide (1000 < l.length) || decide (30000 < weighs (l.take 100))) := rfl
    generalize decide (most < l.length) = b1 at *
    generalize decide (l.length ≤ 64) = b2 at *
    generalize decide (1000 < l.length) = b3 at *
    generalize decide (30000 < weighs (l.take 100)) = b4 at *
    cases b1 <;> cases b2 <;> cases b3 <;> cases b4
    all_goals
      simp only [walk, walkL, evOp, quietOp, farOp, nov, gd, rho, putT, wr, Nat.reduceAdd, Nat.reduceSub, Bool.false_eq_true, if_true, if_false, reduceIte, reduceCtorEq, walkM, Int.reduceBEq, Int.reduceBNe, Int.reduceLT, Int.reduceLE, decide_true, decide_false, eq_self, Bool.not_true, Bool.not_false, ↓ev_fa, ↓ev_field, ↓ev_load, ↓ev_store, stO_cells, List.all_cons, List.all_nil, Bool.and_self, Bool.and_true, len, d1, d2, d3, d4]
      exact W.done (EndZ.ret rfl rfl (by rw [gb]; rfl))
end Go.Proofs.Ytebbgmeomkjibaa
end
section
/- model: the reference's Same, SameAll, at like replies. -/
set_option maxRecDepth 100000
namespace Go.Proofs.Ytebbgmeomkjibaa
open Go.AM Go.Mod

attribute [local irreducible] U W

theorem info_eq {x y : Operand} (o k l s : Int) (t : Bytes) : binV Try.prog .neq 33 x y (.agg [.int .i64 o, .int .u8 k, .int .i64 l, .int .i64 s, .str t]) (.agg [.int .i64 o, .int .u8 k, .int .i64 l, .int .i64 s, .str t]) = some (.bool false) := by
  have hg : (Try.prog).eqGuardType (Try.prog).depth 33 = false := by kernel_rfl
  have hs : (Try.prog).stoodInHeld 33 = false := by kernel_rfl
  simp [binV, eqOp, Try.underlying33, hg, eqV, hs, eqFields, partV, Try.underlying3, Try.underlying5, Try.underlying9, sz3, sz5, sz9, aggD, eqInt, eqStr]

theorem same_fz (r : MReply) (c d : List V) (hc : RepV (.agg c) r) (hd : RepV (.agg d) r) (hn : r.names.length ≤ 1000) (hl : r.lines.length ≤ 1000) : Fz Try.prog pol 13 [.agg c, .agg d] fun x => x = .bool true := by
  obtain ⟨dv, nv, lv, e1, h1, h2, h3⟩ := hc
  obtain ⟨dv', nv', lv', e2, h1', h2', h3'⟩ := hd
  injection e1 with e1
  injection e2 with e2
  subst e1 e2
  refine fz_of Try.func13 rfl ?_
  have s1 := IsSl.scalar h1
  have s2 := IsSl.scalar h2
  have s3 := IsSl.scalar h3
  have s1' := IsSl.scalar h1'
  have s2' := IsSl.scalar h2'
  have s3' := IsSl.scalar h3'
  have tx := fun g => text_of (g := g) h1
  have tx' := fun g => text_of (g := g) h1'
  have ln := h2.len Try.underlying31
  have ln' := h2'.len Try.underlying31
  have ll := h3.len Try.underlying34
  have ll' := h3'.len Try.underlying34
  simp only [walk, walkL, evOp, quietOp, farOp, nov, gd, rho, putT, wr, Nat.reduceAdd, Nat.reduceSub, Bool.false_eq_true, if_true, if_false, reduceIte, reduceCtorEq, walkM, Int.reduceBEq, Int.reduceBNe, Int.reduceLT, Int.reduceLE, decide_true, decide_false, eq_self, Bool.not_true, Bool.not_false, ↓ev_fa, ↓ev_field, ↓ev_load, ↓ev_store, stO_cells, List.all_cons, List.all_nil, Bool.and_self, Bool.and_true, Try.ntmps13, ta13, new, hget, hset, fget, fset, List.modify_zero_cons, List.modify_succ_cons, List.modify_cons, Nat.reduceLT, Nat.reduceEqDiff, Nat.lt_irrefl, Nat.not_lt_zero, Nat.lt_add_one, splice, zerosN, fillV, walkB, pureL, V.pure, Nat.reduceMul, Nat.reduceLeDiff, Nat.one_ne_zero, and_self, and_true, true_and, List.take_zero, List.drop_succ_cons, List.drop_zero, List.take_succ_cons, List.replicate_one, List.drop_nil, List.take_nil, Nat.le_refl, Nat.zero_add, Nat.zero_mul, Nat.one_mul, Nat.mul_one, s1, s2, s3, s1', s2', s3', bne_self_eq_false, beq_self_eq_true, tx, tx', ln, ln', ll, ll', info_eq]
  refine W.ul ?_
  refine W.loopS (kt := [2, 3, 5]) rfl (fun i : Nat => st13_4 (.ptr 0 2 0) (.ptr 0 3 0) (.int .i64 i)) (fun _ => [[(2, .cells [.int .i64 r.err, .int .i64 r.id, dv, nv, .int .i64 r.info.obj, .int .u8 r.info.kind, .int .i64 r.info.links, .int .i64 r.info.size, .str r.info.to, lv]), (3, .cells [.int .i64 r.err, .int .i64 r.id, dv', nv', .int .i64 r.info.obj, .int .u8 r.info.kind, .int .i64 r.info.links, .int .i64 r.info.size, .str r.info.to, lv'])]]) (fun i => i ≤ r.names.length) (fun i => r.names.length - i) ?_ 0 (by omega) rfl rfl
  rintro i hi
  simp only [st13_4]
  by_cases h : i < r.names.length
  · have c1 : decide ((i : Int) < r.names.length) = true := decide_eq_true (by omega)
    have w1 : (IntKind.i64).wrap ((i : Int) + 1) = ((i + 1 : Nat) : Int) := by rw [wrap_i64] <;> omega
    have at1 := h2.at (k := .i64) Try.underlying31 sz9 (by decide) (i := (i : Int)) (by omega) (by omega)
    have at2 := h2'.at (k := .i64) Try.underlying31 sz9 (by decide) (i := (i : Int)) (by omega) (by omega)
    have g1 : (List.map V.str r.names)[(i : Int).toNat * 1]? = some (V.str r.names[i]) := by simp [h]
    simp only [walk, walkL, evOp, quietOp, farOp, nov, gd, rho, putT, wr, Nat.reduceAdd, Nat.reduceSub, Bool.false_eq_true, if_true, if_false, reduceIte, reduceCtorEq, walkM, Int.reduceBEq, Int.reduceBNe, Int.reduceLT, Int.reduceLE, decide_true, decide_false, eq_self, Bool.not_true, Bool.not_false, ↓ev_fa, ↓ev_field, ↓ev_load, ↓ev_store, stO_cells, List.all_cons, List.all_nil, Bool.and_self, Bool.and_true, ln, ll, c1, at1, at2, g1, ta13, new, hget, hset, fget, fset, List.modify_zero_cons, List.modify_succ_cons, List.modify_cons, Nat.reduceLT, Nat.reduceEqDiff, Nat.lt_irrefl, Nat.not_lt_zero, Nat.lt_add_one, bne_self_eq_false, beq_self_eq_true]
    refine W.opsK (by kernel_rfl) ?_
    simp only [walk, walkL, evOp, quietOp, farOp, nov, gd, rho, putT, wr, Nat.reduceAdd, Nat.reduceSub, Bool.false_eq_true, if_true, if_false, reduceIte, reduceCtorEq, walkM, Int.reduceBEq, Int.reduceBNe, Int.reduceLT, Int.reduceLE, decide_true, decide_false, eq_self, Bool.not_true, Bool.not_false, ↓ev_fa, ↓ev_field, ↓ev_load, ↓ev_store, stO_cells, List.all_cons, List.all_nil, Bool.and_self, Bool.and_true, w1]
    exact W.done ⟨i + 1, rfl, rfl, by omega, by omega⟩
  · have c1 : decide ((i : Int) < r.names.length) = false := decide_eq_false (by omega)
    simp only [walk, walkL, evOp, quietOp, farOp, nov, gd, rho, putT, wr, Nat.reduceAdd, Nat.reduceSub, Bool.false_eq_true, if_true, if_false, reduceIte, reduceCtorEq, walkM, Int.reduceBEq, Int.reduceBNe, Int.reduceLT, Int.reduceLE, decide_true, decide_false, eq_self, Bool.not_true, Bool.not_false, ↓ev_fa, ↓ev_field, ↓ev_load, ↓ev_store, stO_cells, List.all_cons, List.all_nil, Bool.and_self, Bool.and_true, ln, ll, c1, ta13, new, hget, hset, fget, fset, List.modify_zero_cons, List.modify_succ_cons, List.modify_cons, Nat.reduceLT, Nat.reduceEqDiff, Nat.lt_irrefl, Nat.not_lt_zero, Nat.lt_add_one]
    refine W.done ?_
    simp only [walk, walkL, evOp, quietOp, farOp, nov, gd, rho, putT, wr, Nat.reduceAdd, Nat.reduceSub, Bool.false_eq_true, if_true, if_false, reduceIte, reduceCtorEq, walkM, Int.reduceBEq, Int.reduceBNe, Int.reduceLT, Int.reduceLE, decide_true, decide_false, eq_self, Bool.not_true, Bool.not_false, ↓ev_fa, ↓ev_field, ↓ev_load, ↓ev_store, stO_cells, List.all_cons, List.all_nil, Bool.and_self, Bool.and_true]
    refine W.ul ?_
    refine W.loopS (kt := [2, 3, 6]) rfl (fun i : Nat => st13_9 (.ptr 0 2 0) (.ptr 0 3 0) (.int .i64 i)) (fun _ => [[(2, .cells [.int .i64 r.err, .int .i64 r.id, dv, nv, .int .i64 r.info.obj, .int .u8 r.info.kind, .int .i64 r.info.links, .int .i64 r.info.size, .str r.info.to, lv]), (3, .cells [.int .i64 r.err, .int .i64 r.id, dv', nv', .int .i64 r.info.obj, .int .u8 r.info.kind, .int .i64 r.info.links, .int .i64 r.info.size, .str r.info.to, lv'])]]) (fun i => i ≤ r.lines.length) (fun i => r.lines.length - i) ?_ 0 (by omega) rfl rfl
    rintro i hi
    simp only [st13_9]
    by_cases h : i < r.lines.length
    · have c1 : decide ((i : Int) < r.lines.length) = true := decide_eq_true (by omega)
      have w1 : (IntKind.i64).wrap ((i : Int) + 1) = ((i + 1 : Nat) : Int) := by rw [wrap_i64] <;> omega
      have at1 := h3.at (k := .i64) Try.underlying34 sz3 (by decide) (i := (i : Int)) (by omega) (by omega)
      have at2 := h3'.at (k := .i64) Try.underlying34 sz3 (by decide) (i := (i : Int)) (by omega) (by omega)
      have g1 : (ofInts r.lines)[(i : Int).toNat * 1]? = some (V.int .i64 r.lines[i]) := by simp [h, ofInts]
      simp only [walk, walkL, evOp, quietOp, farOp, nov, gd, rho, putT, wr, Nat.reduceAdd, Nat.reduceSub, Bool.false_eq_true, if_true, if_false, reduceIte, reduceCtorEq, walkM, Int.reduceBEq, Int.reduceBNe, Int.reduceLT, Int.reduceLE, decide_true, decide_false, eq_self, Bool.not_true, Bool.not_false, ↓ev_fa, ↓ev_field, ↓ev_load, ↓ev_store, stO_cells, List.all_cons, List.all_nil, Bool.and_self, Bool.and_true, ln, ll, c1, at1, at2, g1, ta13, new, hget, hset, fget, fset, List.modify_zero_cons, List.modify_succ_cons, List.modify_cons, Nat.reduceLT, Nat.reduceEqDiff, Nat.lt_irrefl, Nat.not_lt_zero, Nat.lt_add_one, bne_self_eq_false, beq_self_eq_true]
      refine W.opsK (by kernel_rfl) ?_
      simp only [walk, walkL, evOp, quietOp, farOp, nov, gd, rho, putT, wr, Nat.reduceAdd, Nat.reduceSub, Bool.false_eq_true, if_true, if_false, reduceIte, reduceCtorEq, walkM, Int.reduceBEq, Int.reduceBNe, Int.reduceLT, Int.reduceLE, decide_true, decide_false, eq_self, Bool.not_true, Bool.not_false, ↓ev_fa, ↓ev_field, ↓ev_load, ↓ev_store, stO_cells, List.all_cons, List.all_nil, Bool.and_self, Bool.and_true, w1]
      exact W.done ⟨i + 1, rfl, rfl, by omega, by omega⟩
    · have c1 : decide ((i : Int) < r.lines.length) = false := decide_eq_false (by omega)
      simp only [walk, walkL, evOp, quietOp, farOp, nov, gd, rho, putT, wr, Nat.reduceAdd, Nat.reduceSub, Bool.false_eq_true, if_true, if_false, reduceIte, reduceCtorEq, walkM, Int.reduceBEq, Int.reduceBNe, Int.reduceLT, Int.reduceLE, decide_true, decide_false, eq_self, Bool.not_true, Bool.not_false, ↓ev_fa, ↓ev_field, ↓ev_load, ↓ev_store, stO_cells, List.all_cons, List.all_nil, Bool.and_self, Bool.and_true, ln, ll, c1, ta13, new, hget, hset, fget, fset, List.modify_zero_cons, List.modify_succ_cons, List.modify_cons, Nat.reduceLT, Nat.reduceEqDiff, Nat.lt_irrefl, Nat.not_lt_zero, Nat.lt_add_one]
      refine W.done ?_
      simp only [walk, walkL, evOp, quietOp, farOp, nov, gd, rho, putT, wr, Nat.reduceAdd, Nat.reduceSub, Bool.false_eq_true, if_true, if_false, reduceIte, reduceCtorEq, walkM, Int.reduceBEq, Int.reduceBNe, Int.reduceLT, Int.reduceLE, decide_true, decide_false, eq_self, Bool.not_true, Bool.not_false, ↓ev_fa, ↓ev_field, ↓ev_load, ↓ev_store, stO_cells, List.all_cons, List.all_nil, Bool.and_self, Bool.and_true]
      exact W.done (EndZ.ret rfl rfl rfl)
end Go.Proofs.Ytebbgmeomkjibaa
end
section
/- The model in plain words: replies are small. -/
namespace Go.Mod
def SmallR (r : MReply) : Prop := r.names.length ≤ 1000 ∧ r.lines.length ≤ 1000
theorem small_fail (e : Int) : SmallR (fail e) := ⟨by simp [fail], by simp [fail]⟩
theorem small_of {r : MReply} (h1 : r.names = []) (h2 : r.lines = []) : SmallR r := ⟨by simp [h1], by simp [h2]⟩
theorem turn_small (L : MLine) (e : Int) (L' : MLine) : SmallR (L.turn e L').2 := by
  unfold MLine.turn; split <;> exact small_fail _
theorem add_small (L : MLine) (s : Bytes) (o : MObj) : SmallR (L.add s o).2 := by
  unfold MLine.add; split <;> exact small_fail _
theorem lineDo_small (k : Int) (L : MLine) (ok : LineOk L) (c : MCall) : SmallR (lineDo k L c).2 := by
  unfold lineDo
  split
  · exact add_small _ _ _
  · split
    · unfold MLine.point; split
      · exact small_fail _
      · exact add_small _ _ _
    · split
      · exact turn_small _ _ _
      · split
        · exact turn_small _ _ _
        · split
          · exact turn_small _ _ _
          · split
            · unfold MLine.read; split
              · exact small_fail _
              · split
                · exact small_fail _
                · exact small_of rfl rfl
            · split
              · unfold MLine.write; split
                · exact small_fail _
                · exact turn_small _ _ _
              · split
                · unfold MLine.cut; split
                  · exact small_fail _
                  · exact turn_small _ _ _
                · split
                  · unfold MLine.stat; split
                    · exact small_fail _
                    · exact small_of rfl rfl
                  · refine ⟨?_, by simp [MLine.list, fail]⟩
                    have h1 := (Go.AM.sortB_perm (L.names.map (·.1))).length_eq
                    have h2 := ok.few
                    simp only [MLine.list]
                    rw [h1, List.length_map]; omega
theorem small_do {S : MSt} {n : Nat} (ok : StOk S n) (hn : n ≤ 1000) (c : MCall) : SmallR (doCall S c).2 := by
  unfold doCall
  split
  · unfold houseDo
    split
    · unfold hSet; split
      · exact small_fail _
      · exact small_of rfl rfl
    · split
      · unfold hSnap; split
        · exact small_fail _
        · split
          · exact small_fail _
          · exact small_of rfl rfl
      · split
        · unfold hClone; split
          · exact small_fail _
          · split
            · exact small_fail _
            · exact small_of rfl rfl
        · split
          · unfold hPromote; split
            · exact small_fail _
            · split
              · exact small_fail _
              · split <;> exact small_fail _
          · split
            · unfold hRoll; split
              · exact small_fail _
              · split
                · exact small_fail _
                · split
                  · exact small_fail _
                  · split <;> exact small_fail _
            · split
              · unfold hDestroy; split
                · exact small_fail _
                · split <;> exact small_fail _
              · split
                · unfold hLoad; split
                  · exact small_fail _
                  · split
                    · exact small_fail _
                    · split <;> exact small_fail _
                · split
                  · unfold hUnload; split
                    · exact small_fail _
                    · split <;> exact small_fail _
                  · split
                    · refine ⟨by simp [hAll, fail], ?_⟩
                      have h1 := (Go.AM.sortZ_perm (ids S.lines)).length_eq
                      have h2 := ok.cnt
                      simp only [hAll]
                      rw [h1]
                      simp only [ids, List.length_map]; omega
                    · split
                      · unfold hCommit; split <;> exact small_fail _
                      · exact small_fail _
  · split
    · exact small_fail _
    · split
      · exact small_fail _
      · rename_i L hL
        split
        · exact small_fail _
        · split
          · exact small_fail _
          · exact lineDo_small _ L (ok.line hL) c
end Go.Mod
end
section
/- model: SameAll at like replies. -/
set_option maxRecDepth 100000
namespace Go.Proofs.Ytebbgmeomkjibaa
open Go.AM Go.Mod

attribute [local irreducible] U W

theorem RepV.frz {c : List V} {r : MReply} (h : RepV (.agg c) r) (g : Get) (m : Nat) : AM.frz g (m + 2) (.agg c) = some (.agg c) := by
  obtain ⟨dv, nv, lv, e, h1, h2, h3⟩ := h
  injection e with e
  subst e
  have f1 := h1.frz (g := g) m
  have f2 := h2.frz (g := g) m
  have f3 := h3.frz (g := g) m
  show (frzL (AM.frz g (m + 1)) _).map _ = _
  simp only [frzL, f1, f2, f3]
  rfl


theorem sameAll_fz (a b : V) (rs : List MReply) (cs ds : List V) (ha : IsSl 10 a cs rs.length) (hb : IsSl 10 b ds rs.length) (hc : RepsC cs rs) (hd : RepsC ds rs) (hs : ∀ r ∈ rs, SmallR r) (hl : rs.length ≤ 1000) :
    Fz Try.prog pol 11 [a, b] fun x => x = .bool true := by
  refine fz_of Try.func11 rfl ?_
  have ln := ha.len Try.underlying22
  have ln' := hb.len Try.underlying22
  simp only [walk, walkL, evOp, quietOp, farOp, nov, gd, rho, putT, wr, Nat.reduceAdd, Nat.reduceSub, Bool.false_eq_true, if_true, if_false, reduceIte, reduceCtorEq, walkM, Int.reduceBEq, Int.reduceBNe, Int.reduceLT, Int.reduceLE, decide_true, decide_false, eq_self, Bool.not_true, Bool.not_false, ↓ev_fa, ↓ev_field, ↓ev_load, ↓ev_store, stO_cells, List.all_cons, List.all_nil, Bool.and_self, Bool.and_true, Try.ntmps11, ln, ln', bne_self_eq_false]
  refine W.ul ?_
  refine W.loopS (kt := [0, 1, 5]) rfl (fun i : Nat => st11_4 a b (.int .i64 i)) (fun _ => [[]]) (fun i => i ≤ rs.length) (fun i => rs.length - i) ?_ 0 (by omega) rfl rfl
  rintro i hi
  simp only [st11_4]
  by_cases h : i < rs.length
  · have c1 : decide ((i : Int) < rs.length) = true := decide_eq_true (by omega)
    have w1 : (IntKind.i64).wrap ((i : Int) + 1) = ((i + 1 : Nat) : Int) := by rw [wrap_i64] <;> omega
    have at1 := ha.at (k := .i64) Try.underlying22 sz36 (by decide) (i := (i : Int)) (by omega) (by omega)
    have at2 := hb.at (k := .i64) Try.underlying22 sz36 (by decide) (i := (i : Int)) (by omega) (by omega)
    have hri := List.getElem?_eq_getElem h
    have r1 := hc.at_ hri
    have r2 := hd.at_ hri
    have sm := hs _ (List.getElem_mem h)
    have ra1 : readAt Try.prog 36 cs ((i : Int).toNat * 10) = some (.agg ((cs.drop (i * 10)).take 10)) := by
      rw [rd36, if_pos (by rw [hc.len]; have : (i : Int).toNat = i := rfl; omega)]; rfl
    have ra2 : readAt Try.prog 36 ds ((i : Int).toNat * 10) = some (.agg ((ds.drop (i * 10)).take 10)) := by
      rw [rd36, if_pos (by rw [hd.len]; have : (i : Int).toNat = i := rfl; omega)]; rfl
    generalize (cs.drop (i * 10)).take 10 = c1' at *
    generalize (ds.drop (i * 10)).take 10 = d1' at *
    simp only [walk, walkL, evOp, quietOp, farOp, nov, gd, rho, putT, wr, Nat.reduceAdd, Nat.reduceSub, Bool.false_eq_true, if_true, if_false, reduceIte, reduceCtorEq, walkM, Int.reduceBEq, Int.reduceBNe, Int.reduceLT, Int.reduceLE, decide_true, decide_false, eq_self, Bool.not_true, Bool.not_false, ↓ev_fa, ↓ev_field, ↓ev_load, ↓ev_store, stO_cells, List.all_cons, List.all_nil, Bool.and_self, Bool.and_true, ln, c1, at1, at2, ↓ra1, ↓ra2]
    refine W.pcallT (same_fz _ c1' d1' r1 r2 sm.1 sm.2) rfl rfl (frzL_cons (r1.frz _ 10) (frzL_cons (r2.frz _ 10) rfl)) ?_
    rintro _ rfl
    simp only [walk, walkL, evOp, quietOp, farOp, nov, gd, rho, putT, wr, Nat.reduceAdd, Nat.reduceSub, Bool.false_eq_true, if_true, if_false, reduceIte, reduceCtorEq, walkM, Int.reduceBEq, Int.reduceBNe, Int.reduceLT, Int.reduceLE, decide_true, decide_false, eq_self, Bool.not_true, Bool.not_false, ↓ev_fa, ↓ev_field, ↓ev_load, ↓ev_store, stO_cells, List.all_cons, List.all_nil, Bool.and_self, Bool.and_true]
    refine W.opsK (by kernel_rfl) ?_
    simp only [walk, walkL, evOp, quietOp, farOp, nov, gd, rho, putT, wr, Nat.reduceAdd, Nat.reduceSub, Bool.false_eq_true, if_true, if_false, reduceIte, reduceCtorEq, walkM, Int.reduceBEq, Int.reduceBNe, Int.reduceLT, Int.reduceLE, decide_true, decide_false, eq_self, Bool.not_true, Bool.not_false, ↓ev_fa, ↓ev_field, ↓ev_load, ↓ev_store, stO_cells, List.all_cons, List.all_nil, Bool.and_self, Bool.and_true, w1]
    exact W.done ⟨i + 1, rfl, rfl, by omega, by omega⟩
  · have c1 : decide ((i : Int) < rs.length) = false := decide_eq_false (by omega)
    simp only [walk, walkL, evOp, quietOp, farOp, nov, gd, rho, putT, wr, Nat.reduceAdd, Nat.reduceSub, Bool.false_eq_true, if_true, if_false, reduceIte, reduceCtorEq, walkM, Int.reduceBEq, Int.reduceBNe, Int.reduceLT, Int.reduceLE, decide_true, decide_false, eq_self, Bool.not_true, Bool.not_false, ↓ev_fa, ↓ev_field, ↓ev_load, ↓ev_store, stO_cells, List.all_cons, List.all_nil, Bool.and_self, Bool.and_true, ln, c1]
    refine W.done ?_
    simp only [walk, walkL, evOp, quietOp, farOp, nov, gd, rho, putT, wr, Nat.reduceAdd, Nat.reduceSub, Bool.false_eq_true, if_true, if_false, reduceIte, reduceCtorEq, walkM, Int.reduceBEq, Int.reduceBNe, Int.reduceLT, Int.reduceLE, decide_true, decide_false, eq_self, Bool.not_true, Bool.not_false, ↓ev_fa, ↓ev_field, ↓ev_load, ↓ev_store, stO_cells, List.all_cons, List.all_nil, Bool.and_self, Bool.and_true]
    exact W.done (EndZ.ret rfl rfl rfl)
end Go.Proofs.Ytebbgmeomkjibaa
end
