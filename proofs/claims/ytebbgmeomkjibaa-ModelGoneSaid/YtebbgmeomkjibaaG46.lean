/- This file holds in one the texts O24; each says at its head what it proves. -/
import Derived.Test.YtebbgmeomkjibaaG29
import Derived.Test.YtebbgmeomkjibaaG45
set_option linter.unusedSimpArgs false
set_option linter.unusedVariables false
section
/- model: destroy. -/
set_option maxRecDepth 100000
namespace Go.Proofs.Ytebbgmeomkjibaa
open Go.AM Go.Mod

attribute [local irreducible] U W lineC

def encX (x : Ent) : V × V := (.int .i64 x.id, .ptr x.loc.f x.loc.s 0)
theorem encL_eq (xs : List Ent) : encL xs = xs.map encX := rfl
theorem ev_range {P : Program} {g : Get} {fr : Nat} {d : Nat} {t : TypeId} {kt e : TypeId} (hu : P.underlying t = some (.map kt e)) {f s : Nat} {es : List (V × V)} {bs : List Nat} {clk : Nat} (hg : g f s = some (.map es bs clk)) (hd : g fr d = none) :
    rangeV P g fr (some d) t (.map f s) = some (.val (.ptr fr d 0) (some (fr, d, .iter (some (f, s)) clk [] clk))) := by
  simp only [rangeV, hu, hg, new, hd]
theorem ev_entry {g : Get} {f s : Nat} {m : Nat × Nat} {since stepped : Nat} {seen : List Nat} {b : Nat} {xs : List Ent} {bs : List Nat} (h1 : g f s = some (.iter (some m) since (seen ++ [b]) stepped)) (h2 : g m.1 m.2 = some (.map (encL xs) bs stepped)) {x : Ent} {seen0 : List Nat} (hu : bs.Nodup) (hm : (x, b) ∈ leftX seen0 xs bs) :
    entryV g (.ptr f s 0) = some (.tuple [.int .i64 x.id, .ptr x.loc.f x.loc.s 0]) := by
  simp only [entryV, h1, h2, List.getLast?_append, List.getLast?_singleton, Option.some_or, if_true]
  rw [encL_eq, entryAt_map encX hu hm]
  rfl

def cntX (q : Ent → Bool) (l : List (Ent × Nat)) : Nat := (l.filter fun p => q p.1).length
theorem cntX_step {q : Ent → Bool} {seen : List Nat} {p : Ent × Nat} {xs : List Ent} {bs : List Nat} (hu : bs.Nodup) (hm : p ∈ leftX seen xs bs) : cntX q (leftX seen xs bs) = (if q p.1 then 1 else 0) + cntX q (leftX (seen ++ [p.2]) xs bs) := by
  have h := ((leftX_perm hu hm).filter fun p => q p.1).length_eq
  unfold cntX
  rw [h, List.filter_cons]
  split
  · simp only [List.length_cons]; omega
  · omega
theorem cntX_all {q : Ent → Bool} {xs : List Ent} {bs : List Nat} (h : xs.length = bs.length) : cntX q (leftX [] xs bs) = (xs.filter q).length := by
  have e := leftX_nil xs bs h
  unfold cntX
  conv => rhs; rw [← e]
  rw [List.filter_map, List.length_map]; rfl
theorem owns_eq (xs : List Ent) (a : Int) : owns (linesOf xs) a = (xs.filter fun x => x.line.snap && decide (x.line.owner = a)).length := by
  unfold owns linesOf
  rw [List.filter_map, List.length_map]; rfl
theorem nexts_eq (xs : List Ent) (a : Int) : nexts (linesOf xs) a = (xs.filter fun x => decide (x.line.prev = a)).length := by
  unfold nexts linesOf
  rw [List.filter_map, List.length_map]; rfl

def upds (g : Ent → O) (K : Heap) : List Ent → Heap := List.foldr (fun e K => hset K e.loc.f e.loc.s (g e)) K
theorem upds_len (g : Ent → O) (K : Heap) : ∀ l, (upds g K l).length = K.length
  | [] => rfl
  | e :: l => by
    show (hset (upds g K l) e.loc.f e.loc.s (g e)).length = _
    rw [hset_length, upds_len g K l]
theorem upds_other (g : Ent → O) (K : Heap) {f s : Nat} : ∀ l, (∀ e ∈ l, e.loc.f < K.length) → (∀ e ∈ l, ¬ (f = e.loc.f ∧ s = e.loc.s)) → hget (upds g K l) f s = hget K f s
  | [], _, _ => rfl
  | e :: l, h0, h => by
    show hget (hset (upds g K l) e.loc.f e.loc.s (g e)) f s = _
    rw [hget_ne (by rw [upds_len]; exact h0 e (by simp)) (h e (by simp)), upds_other g K l (fun x hx => h0 x (List.mem_cons_of_mem _ hx)) (fun x hx => h x (List.mem_cons_of_mem _ hx))]
theorem upds_at (g : Ent → O) (K : Heap) {d : Ent} : ∀ l, (∀ e ∈ l, e.loc.f < K.length) → d ∈ l → (∀ e ∈ l, d.loc.f = e.loc.f ∧ d.loc.s = e.loc.s → e = d) → hget (upds g K l) d.loc.f d.loc.s = some (g d)
  | [], _, h, _ => by cases h
  | e :: l, h0, h, hu => by
    show hget (hset (upds g K l) e.loc.f e.loc.s (g e)) d.loc.f d.loc.s = _
    by_cases q : d.loc.f = e.loc.f ∧ d.loc.s = e.loc.s
    · have := hu e (by simp) q
      subst this
      rw [hget_same (by rw [upds_len]; exact h0 e (by simp))]
    · rw [hget_ne (by rw [upds_len]; exact h0 e (by simp)) q]
      rcases List.mem_cons.1 h with rfl | h
      · exact absurd ⟨rfl, rfl⟩ q
      · exact upds_at g K l (fun x hx => h0 x (List.mem_cons_of_mem _ hx)) h (fun x hx => hu x (List.mem_cons_of_mem _ hx))
theorem upds_perm (g : Ent → O) (K : Heap) {l m : List Ent} (hp : l.Perm m) (h : ∀ x ∈ l, ∀ y ∈ l, x.loc.f = y.loc.f ∧ x.loc.s = y.loc.s → x = y) : upds g K l = upds g K m := by
  unfold upds
  refine hp.foldr_eq' (fun x hx y hy z => ?_) K
  by_cases q : x.loc.f = y.loc.f ∧ x.loc.s = y.loc.s
  · have := h x hx y hy q
    subst this; rfl
  · exact hset_comm z _ _ q
theorem uniq_eq {l : List Ent} (hu : l.Pairwise fun x y => x.id ≠ y.id) {a b : Ent} (ha : a ∈ l) (hb : b ∈ l) (h : a.id = b.id) : a = b := by
  induction l with
  | nil => cases ha
  | cons z l ih =>
    obtain ⟨h1, h2⟩ := List.pairwise_cons.1 hu
    rcases List.mem_cons.1 ha with rfl | ha'
    · rcases List.mem_cons.1 hb with rfl | hb'
      · rfl
      · exact absurd h (h1 b hb')
    · rcases List.mem_cons.1 hb with rfl | hb'
      · exact absurd h.symm (h1 a ha')
      · exact ih h2 ha' hb'
theorem place_eq {l : List Ent} (hu : l.Pairwise fun x y => x.id ≠ y.id) (ha : l.Pairwise Apart) {a b : Ent} (h1 : a ∈ l) (h2 : b ∈ l) (h : a.loc.f = b.loc.f ∧ a.loc.s = b.loc.s) : a = b := by
  by_cases q : a.id = b.id
  · exact uniq_eq hu h1 h2 q
  · exact absurd h (pair_of (fun _ _ h => h.symm) ha h1 h2 q).1
theorem prev_ne {S : MSt} {n : Nat} (ok : StOk S n) {i : Int} {L : MLine} (h : lineOf S.lines i = some L) : L.prev ≠ i := by
  intro e
  have hm := lineOf_mem h
  have h0 := ok.id0 _ hm
  rcases ok.prev _ hm with h1 | ⟨q, hq, e1, e2⟩
  · simp only at h1 h0; omega
  · have hq2 := lineOf_of_mem ok.uniq (i := q.1) (L := q.2) hq
    simp only at e1
    rw [e1, e, h] at hq2
    cases hq2
    have := ok.desc _ hm e2
    simp only at this; omega

def dropE : List Ent → Int → List Ent
  | [], _ => []
  | x :: l, i => if i = x.id then l else x :: dropE l i
def repE (l : List Ent) (a b : Int) : List Ent := l.map fun e => if e.line.prev = a then { e with line := { e.line with prev := b } } else e
theorem dropE_lines (l : List Ent) (i : Int) : linesOf (dropE l i) = dropL (linesOf l) i := by
  induction l with
  | nil => rfl
  | cons x l ih =>
    simp only [dropE, linesOf, List.map_cons, dropL] at ih ⊢
    split
    · rfl
    · rw [List.map_cons, ih]
theorem repE_lines (l : List Ent) (a b : Int) : linesOf (repE l a b) = rePrev (linesOf l) a b := by
  simp only [linesOf, repE, rePrev, List.map_map]
  apply List.map_congr_left
  intro e _
  simp only [Function.comp]
  split <;> rfl
theorem repE_enc (l : List Ent) (a b : Int) : encL (repE l a b) = encL l := by
  simp only [encL, repE, List.map_map]
  apply List.map_congr_left
  intro e _
  simp only [Function.comp]
  split <;> rfl
theorem dropE_sub (l : List Ent) (i : Int) : (dropE l i).Sublist l := by
  induction l with
  | nil => exact .slnil
  | cons x l ih =>
    simp only [dropE]
    split
    · exact List.sublist_cons_self _ _
    · exact ih.cons_cons _
theorem dropE_rep_enc (l : List Ent) (a b i : Int) : encL (dropE (repE l a b) i) = encL (dropE l i) := by
  induction l with
  | nil => rfl
  | cons x l ih =>
    have e : (if x.line.prev = a then { x with line := { x.line with prev := b } } else x : Ent).id = x.id := by split <;> rfl
    have e2 : (if x.line.prev = a then { x with line := { x.line with prev := b } } else x : Ent).loc = x.loc := by split <;> rfl
    simp only [repE, List.map_cons, dropE, e] at ih ⊢
    split
    · exact repE_enc l a b
    · simp only [encL, List.map_cons, e, e2] at ih ⊢
      rw [ih]
theorem dropE_rep_len (l : List Ent) (a b i : Int) : (dropE (repE l a b) i).length = (dropE l i).length := by
  have := congrArg List.length (dropE_rep_enc l a b i)
  simpa only [encL, List.length_map] using this
theorem del_lines {mf ms : Nat} {bs : List Nat} {clk : Nat} {i : Int} : ∀ {l : List Ent} {x : Ent}, Born l.length bs clk → entOf l i = some x →
    ∃ bs', Born (dropE l i).length bs' clk ∧ ∀ g : Get, g mf ms = some (.map (encL l) bs clk) → deleteV Try.prog g 44 (.map mf ms) (.int .i64 i) = some (.val (.tuple []) (some (mf, ms, .map (encL (dropE l i)) bs' clk))) := by
  intro l x hb hx
  have key : ∀ (l : List Ent) (j : Nat) {x : Ent}, entOf l i = some x → ∃ k, findKey (.int .i64 i) (encL l) j = some (some (j + k, .ptr x.loc.f x.loc.s 0)) ∧ k < l.length ∧ (encL l).eraseIdx k = encL (dropE l i) ∧ (dropE l i).length + 1 = l.length := by
    intro l
    induction l with
    | nil => intro j x h; cases h
    | cons y l ih =>
      intro j x h
      simp only [entOf] at h
      by_cases e : i = y.id
      · subst e
        rw [if_pos rfl] at h
        cases h
        exact ⟨0, by simp [encL, findKey, keyEq], by simp, by simp [encL, dropE], by simp [dropE]⟩
      · rw [if_neg e] at h
        obtain ⟨k, h1, h2, h3, h4⟩ := ih (j + 1) h
        have e2 : (i == y.id) = false := by simpa using e
        refine ⟨k + 1, ?_, by simp; omega, ?_, by simp [dropE, e]; omega⟩
        · simp only [encL, List.map_cons, findKey, keyEq, if_true, e2] at h1 ⊢
          rw [h1]; congr 3; omega
        · simp only [encL, List.map_cons, List.eraseIdx_cons_succ, dropE, e, if_false] at h3 ⊢
          rw [h3]
  obtain ⟨k, h1, h2, h3, h4⟩ := key l 0 hx
  rw [Nat.zero_add] at h1
  refine ⟨bs.eraseIdx k, Born.erase (n := (dropE l i).length) (by rw [h4]; exact hb) (by omega), fun g h => ?_⟩
  simp only [deleteV, Try.underlying44, Try.underlying3, plainKey, if_true, h, h1, h3]

theorem destroy_h : HSpec 23 hDestroy := by
  rintro H h S N c dv ⟨xs, kl, hh⟩ ok hN hc
  refine cr_of Try.func23 rfl ?_
  intro n K hn F
  have sdv := IsSl.scalar hc.data
  obtain ⟨bs, clk, hm, hb⟩ := hh.lmap
  have A := F.at_ hn hh.cell
  have B := F.at_ hn hm
  have lkl := fun g hg => lookup_lines (g := g) (mf := h.mf) (ms := h.ms) (l := xs) (bs := bs) (clk := clk) hg c.a
  have bad : ∀ (K2 : Heap) (e : Int), hDestroy S c = (S, fail e) → Ch H K2 [] → RepV (failV e) (hDestroy S c).2 ∧ HouseOut H K2 h (hDestroy S c).1 ∧ Aside H K2 := by
    intro K2 e he hch
    rw [he]; exact ⟨rep_fail e, ⟨xs, kl, hh.ch hch, hh.kOut⟩, .of_ch0 hch⟩
  have hw := hh.lines ▸ lineOf_ent xs c.a
  simp only [walk, walkL, evOp, quietOp, farOp, nov, gd, rho, putT, wr, Nat.reduceAdd, Nat.reduceSub, Bool.false_eq_true, if_true, if_false, reduceIte, reduceCtorEq, walkM, Int.reduceBEq, Int.reduceBNe, Int.reduceLT, Int.reduceLE, decide_true, decide_false, eq_self, Bool.not_true, Bool.not_false, ↓ev_fa, ↓ev_field, ↓ev_load, ↓ev_store, stO_cells, List.all_cons, List.all_nil, Bool.and_self, Bool.and_true, Try.ntmps23, ta23, new, hget_hset', hset_length, and_false, false_and, and_true, true_and, and_self, Nat.reduceEqDiff, Nat.reduceLT, Nat.lt_irrefl, Nat.not_lt_zero, splice, zerosN, fillV, walkB, pureL, V.pure, Nat.reduceMul, Nat.reduceLeDiff, Nat.one_ne_zero, List.take_zero, List.drop_succ_cons, List.drop_zero, List.take_succ_cons, List.replicate_one, List.drop_nil, List.take_nil, Nat.le_refl, Nat.zero_add, Nat.zero_mul, Nat.one_mul, Nat.mul_one, F.own, F.lt, sdv, A.get, A.ltK, B.get, B.ltK, lc_0, lc_1, lc_2, lc_3, lc_4, Nat.add_zero, callC, A.ne, B.ne, ↓lkl]
  refine W.opsK (by kernel_rfl) ?_
  cases hx : entOf xs c.a with
  | none =>
    rw [hx] at hw
    simp only [walk, walkL, evOp, quietOp, farOp, nov, gd, rho, putT, wr, Nat.reduceAdd, Nat.reduceSub, Bool.false_eq_true, if_true, if_false, reduceIte, reduceCtorEq, walkM, Int.reduceBEq, Int.reduceBNe, Int.reduceLT, Int.reduceLE, decide_true, decide_false, eq_self, Bool.not_true, Bool.not_false, ↓ev_fa, ↓ev_field, ↓ev_load, ↓ev_store, stO_cells, List.all_cons, List.all_nil, Bool.and_self, Bool.and_true, bn_pt0 Try.underlying57]
    refine W.pcall (fails_fz 6) rfl rfl rfl ?_
    rintro _ rfl
    simp only [walk, walkL, evOp, quietOp, farOp, nov, gd, rho, putT, wr, Nat.reduceAdd, Nat.reduceSub, Bool.false_eq_true, if_true, if_false, reduceIte, reduceCtorEq, walkM, Int.reduceBEq, Int.reduceBNe, Int.reduceLT, Int.reduceLE, decide_true, decide_false, eq_self, Bool.not_true, Bool.not_false, ↓ev_fa, ↓ev_field, ↓ev_load, ↓ev_store, stO_cells, List.all_cons, List.all_nil, Bool.and_self, Bool.and_true, failV, ta23, new, hget_hset', hset_length, and_false, false_and, and_true, true_and, and_self, Nat.reduceEqDiff, Nat.reduceLT, Nat.lt_irrefl, Nat.not_lt_zero, F.lt, splice, zerosN, fillV, walkB, pureL, V.pure, Nat.reduceMul, Nat.reduceLeDiff, Nat.one_ne_zero, List.take_zero, List.drop_succ_cons, List.drop_zero, List.take_succ_cons, List.replicate_one, List.drop_nil, List.take_nil, Nat.le_refl, Nat.zero_add, Nat.zero_mul, Nat.one_mul, Nat.mul_one]
    exact W.done (EndK.ret (res_cell rfl rfl (hget_same (by first | exact F.lt | assumption | (simp only [hset_length]; first | exact F.lt | assumption))) (by rw [rd36]; rfl)) (bad _ 6 (by rw [hDestroy, hw]; rfl) (F.ch hn (by first | rfl | simp only [hset_length]) (fun f' s' h => by first | rfl | simp only [hget_hset', hset_length, F.lt, Nat.ne_of_lt h, false_and, if_false, AM.lk, *, -hn]))))
  | some x =>
    rw [hx] at hw
    have hxm := (entOf_mem hx).1
    obtain ⟨l, bs1, clk1, hL⟩ := hh.line x hxm
    have X := F.at_ hn hL.cells
    have hw2 : hDestroy S c = if (!x.line.snap && decide (0 < owns S.lines c.a)) || (x.line.snap && decide (1 < nexts S.lines c.a)) then (S, fail 230) else
        ({ S with lines := dropL (rePrev S.lines c.a x.line.prev) c.a }, fail 0) := by
      rw [hDestroy, hw]; simp only [Option.map_some]
    -- each line's cells
    have hlo : ∃ lo : Ent → List Ob, ∀ y ∈ xs, ∃ b k, LineAt H y.loc y.line (lo y) b k := by
      classical
      refine ⟨fun y => if hy : y ∈ xs then (hh.line y hy).choose else [], fun y hy => ?_⟩
      simp only [hy, dif_pos]
      obtain ⟨b, k, hk⟩ := (hh.line y hy).choose_spec
      exact ⟨b, k, hk⟩
    obtain ⟨lo, hlo⟩ := hlo
    have k3 : hget (hset (hset K n 3 (.cells (callC c dv))) n 4 (.cells [.int .i64 0, .int .i64 0, .nilslice, .nilslice, .int .i64 0, .int .u8 0, .int .i64 0, .int .i64 0, .str [], .nilslice])) n 3 = some (.cells (callC c dv)) := by simp only [hget_hset', hset_length, F.lt, Nat.reduceEqDiff, and_false, and_self, if_true, if_false]
    have k4 : hget (hset (hset K n 3 (.cells (callC c dv))) n 4 (.cells [.int .i64 0, .int .i64 0, .nilslice, .nilslice, .int .i64 0, .int .u8 0, .int .i64 0, .int .i64 0, .str [], .nilslice])) n 4 = _ := hget_same (by simp only [hset_length]; exact F.lt)
    have k26 : hget (hset (hset K n 3 (.cells (callC c dv))) n 4 (.cells [.int .i64 0, .int .i64 0, .nilslice, .nilslice, .int .i64 0, .int .u8 0, .int .i64 0, .int .i64 0, .str [], .nilslice])) n 26 = none := by simp only [hget_hset', hset_length, F.lt, Nat.reduceEqDiff, and_false, if_false]; exact F.own 26
    have k79 : hget (hset (hset K n 3 (.cells (callC c dv))) n 4 (.cells [.int .i64 0, .int .i64 0, .nilslice, .nilslice, .int .i64 0, .int .u8 0, .int .i64 0, .int .i64 0, .str [], .nilslice])) n 79 = none := by simp only [hget_hset', hset_length, F.lt, Nat.reduceEqDiff, and_false, if_false]; exact F.own 79
    have klow : ∀ f s, f < n → hget (hset (hset K n 3 (.cells (callC c dv))) n 4 (.cells [.int .i64 0, .int .i64 0, .nilslice, .nilslice, .int .i64 0, .int .u8 0, .int .i64 0, .int .i64 0, .str [], .nilslice])) f s = hget H f s := (fun f s h => by simp only [hget_hset', hset_length, F.lt, Nat.ne_of_lt h, false_and, if_false]; exact F.low f s h)
    have klt : n < (hset (hset K n 3 (.cells (callC c dv))) n 4 (.cells [.int .i64 0, .int .i64 0, .nilslice, .nilslice, .int .i64 0, .int .u8 0, .int .i64 0, .int .i64 0, .str [], .nilslice])).length := (by simp only [hset_length]; exact F.lt)
    simp only [callC] at k3 k4 k26 k79 klow klt
    generalize hset (hset K n 3 _) n 4 _ = K1 at *
    have Yg : ∀ y ∈ xs, hget K1 y.loc.f y.loc.s = some (.cells (lineC y.loc y.line.snap y.line.owner y.line.prev (lo y))) ∧ y.loc.f < n := fun y hy => by
      obtain ⟨b, k, hk⟩ := hlo y hy
      have Y := F.at_ hn hk.cells
      exact ⟨(klow _ _ Y.lt).trans hk.cells, Y.lt⟩
    have m1 : hget K1 h.mf h.ms = some (.map (encL xs) bs clk) := (klow _ _ B.lt).trans hm
    have c1 : hget K1 h.f h.s = _ := (klow _ _ A.lt).trans hh.cell
    have er := ev_range (P := Try.prog) (d := 26) Try.underlying44 m1 k26
    simp only [walk, walkL, evOp, quietOp, farOp, nov, gd, rho, putT, wr, Nat.reduceAdd, Nat.reduceSub, Bool.false_eq_true, if_true, if_false, reduceIte, reduceCtorEq, walkM, Int.reduceBEq, Int.reduceBNe, Int.reduceLT, Int.reduceLE, decide_true, decide_false, eq_self, Bool.not_true, Bool.not_false, ↓ev_fa, ↓ev_field, ↓ev_load, ↓ev_store, stO_cells, List.all_cons, List.all_nil, Bool.and_self, Bool.and_true, bn_pt1 Try.underlying57, ta23, new, hget_hset', hset_length, and_false, false_and, and_true, true_and, and_self, Nat.reduceEqDiff, Nat.reduceLT, Nat.lt_irrefl, Nat.not_lt_zero, zerosN, fillV, walkB, pureL, V.pure, Nat.reduceMul, Nat.reduceLeDiff, Nat.one_ne_zero, List.take_zero, List.drop_succ_cons, List.drop_zero, List.take_succ_cons, List.replicate_one, List.drop_nil, List.take_nil, Nat.le_refl, Nat.zero_add, Nat.zero_mul, Nat.one_mul, Nat.mul_one, klt, c1, ↓er]
    refine W.ul ?_
    have Hlen : xs.length = bs.length := hb.len.symm
    refine W.range (d := some 27) (k := _) rfl rfl (.exit 0, ((st23_6 (.ptr h.f h.s 0) (.ptr n 3 0) (.ptr n 4 0) (.ptr x.loc.f x.loc.s 0) (.int .i64 (owns S.lines c.a)) (.int .i64 (nexts S.lines c.a)) (.ptr n 26 0)).set 27 (.tuple [.bool false])).set 28 (.bool false), hset K1 n 26 .dead)
      (fun (a : List Nat × Nat × Nat) t H1 => maskT [0, 3, 4, 5, 6, 7, 26] t 0 = st23_6 (.ptr h.f h.s 0) (.ptr n 3 0) (.ptr n 4 0) (.ptr x.loc.f x.loc.s 0) (.int .i64 a.2.1) (.int .i64 a.2.2) (.ptr n 26 0) ∧ H1 = hset K1 n 26 (.iter (some (h.mf, h.ms)) clk a.1 clk) ∧
        a.2.1 + cntX (fun y => y.line.snap && decide (y.line.owner = c.a)) (leftX a.1 xs bs) = owns S.lines c.a ∧ a.2.2 + cntX (fun y => decide (y.line.prev = c.a)) (leftX a.1 xs bs) = nexts S.lines c.a)
      (fun a => (leftX a.1 xs bs).length) ?_ ([], 0, 0) ⟨rfl, rfl, by rw [cntX_all Hlen, hh.lines, owns_eq, Nat.zero_add], by rw [cntX_all Hlen, hh.lines, nexts_eq, Nat.zero_add]⟩ ?_
    · rintro ⟨seen, o, nx⟩ t H1 ⟨ht, rfl, ho, hnx⟩
      simp only at ht ho hnx
      have m2 : hget (hset K1 n 26 (.iter (some (h.mf, h.ms)) clk seen clk)) h.mf h.ms = some (.map (encL xs) bs clk) := by rw [hget_frame klt (by have := B.lt; omega)]; exact m1
      obtain ⟨cs, hcs, hall⟩ := nextC_map (g := hget (hset K1 n 26 (.iter (some (h.mf, h.ms)) clk seen clk))) (hget_same klt) m2 hb.lt (Nat.le_refl clk)
      refine ⟨_, _, cs, forget_keep (kt := [0, 3, 4, 5, 6, 7, 26]) rfl, ?_, fun d hd => ?_⟩
      · rw [ht]; exact hcs
      · rw [ht]
        rw [encL_eq, leftE_map encX] at hall
        rcases hall d hd with ⟨hnil, rfl⟩ | ⟨e, he, rfl⟩
        · have hnil2 : leftX seen xs bs = [] := List.map_eq_nil_iff.1 hnil
          rw [hnil2] at ho hnx
          simp only [cntX, List.filter_nil, List.length_nil, Nat.add_zero] at ho hnx
          subst ho hnx
          simp only [st23_6]
          simp only [walk, walkL, evOp, quietOp, farOp, nov, gd, rho, putT, wr, Nat.reduceAdd, Nat.reduceSub, Bool.false_eq_true, if_true, if_false, reduceIte, reduceCtorEq, walkM, Int.reduceBEq, Int.reduceBNe, Int.reduceLT, Int.reduceLE, decide_true, decide_false, eq_self, Bool.not_true, Bool.not_false, ↓ev_fa, ↓ev_field, ↓ev_load, ↓ev_store, stO_cells, List.all_cons, List.all_nil, Bool.and_self, Bool.and_true, hset_hset]
          exact W.done rfl
        · obtain ⟨⟨y, b⟩, hyb, rfl⟩ := List.mem_map.1 he
          have hym : y ∈ xs := (leftX_mem hyb).1
          have e1 := cntX_step (q := fun y => y.line.snap && decide (y.line.owner = c.a)) hb.uniq hyb
          have e2 := cntX_step (q := fun y => decide (y.line.prev = c.a)) hb.uniq hyb
          have e3 := (leftX_perm hb.uniq hyb).length_eq
          simp only [List.length_cons] at e1 e2 e3
          have hle : owns S.lines c.a ≤ 1000 := by
            have := ok.cnt
            unfold owns
            have := List.length_filter_le (fun p : Int × MLine => p.2.snap && decide (p.2.owner = c.a)) S.lines
            omega
          have hle2 : nexts S.lines c.a ≤ 1000 := by
            have := ok.cnt
            unfold nexts
            have := List.length_filter_le (fun p : Int × MLine => decide (p.2.prev = c.a)) S.lines
            omega
          have gy : hget (hset K1 n 26 (.iter (some (h.mf, h.ms)) clk (seen ++ [b]) clk)) y.loc.f y.loc.s = _ := (hget_frame klt (by have := (Yg y hym).2; omega)).trans (Yg y hym).1
          have g3 : hget (hset K1 n 26 (.iter (some (h.mf, h.ms)) clk (seen ++ [b]) clk)) n 3 = _ := (hget_slot klt (by decide)).trans k3
          have m3 : hget (hset K1 n 26 (.iter (some (h.mf, h.ms)) clk (seen ++ [b]) clk)) h.mf h.ms = some (.map (encL xs) bs clk) := by rw [hget_frame klt (by have := B.lt; omega)]; exact m1
          have en := ev_entry (hget_same (o := .iter (some (h.mf, h.ms)) clk (seen ++ [b]) clk) klt) m3 hb.uniq hyb
          have wo : (IntKind.i64).wrap ((o : Int) + 1) = ((o + 1 : Nat) : Int) := by rw [wrap_i64] <;> omega
          have wn : (IntKind.i64).wrap ((nx : Int) + 1) = ((nx + 1 : Nat) : Int) := by rw [wrap_i64] <;> omega
          have em : ∀ (o' nx' : Nat) (t : List V), maskT [0, 3, 4, 5, 6, 7, 26] t 0 = st23_6 (.ptr h.f h.s 0) (.ptr n 3 0) (.ptr n 4 0) (.ptr x.loc.f x.loc.s 0) (.int .i64 o') (.int .i64 nx') (.ptr n 26 0) → o' = o + (if (y.line.snap && decide (y.line.owner = c.a)) = true then 1 else 0) → nx' = nx + (if decide (y.line.prev = c.a) = true then 1 else 0) →
              ∃ a' : List Nat × Nat × Nat, (maskT [0, 3, 4, 5, 6, 7, 26] t 0 = st23_6 (.ptr h.f h.s 0) (.ptr n 3 0) (.ptr n 4 0) (.ptr x.loc.f x.loc.s 0) (.int .i64 a'.2.1) (.int .i64 a'.2.2) (.ptr n 26 0) ∧ hset K1 n 26 (.iter (some (h.mf, h.ms)) clk (seen ++ [b]) clk) = hset K1 n 26 (.iter (some (h.mf, h.ms)) clk a'.1 clk) ∧
                a'.2.1 + cntX (fun y => y.line.snap && decide (y.line.owner = c.a)) (leftX a'.1 xs bs) = owns S.lines c.a ∧ a'.2.2 + cntX (fun y => decide (y.line.prev = c.a)) (leftX a'.1 xs bs) = nexts S.lines c.a) ∧ (leftX a'.1 xs bs).length < (leftX seen xs bs).length := by
            rintro o' nx' t h1 rfl rfl
            refine ⟨(seen ++ [b], _, _), ⟨h1, rfl, ?_, ?_⟩, ?_⟩
            · simp only; omega
            · simp only; omega
            · simp only; omega
          simp only [encX, st23_6]
          simp only [walk, walkL, evOp, quietOp, farOp, nov, gd, rho, putT, wr, Nat.reduceAdd, Nat.reduceSub, Bool.false_eq_true, if_true, if_false, reduceIte, reduceCtorEq, walkM, Int.reduceBEq, Int.reduceBNe, Int.reduceLT, Int.reduceLE, decide_true, decide_false, eq_self, Bool.not_true, Bool.not_false, ↓ev_fa, ↓ev_field, ↓ev_load, ↓ev_store, stO_cells, List.all_cons, List.all_nil, Bool.and_self, Bool.and_true, hset_hset, ↓en, ta23, callC, gy, g3, lc_0, lc_1, lc_2, Nat.zero_add]
          refine W.guardT (fun q1 => ?_) (fun q1 => ?_)
          · simp only [walk, walkL, evOp, quietOp, farOp, nov, gd, rho, putT, wr, Nat.reduceAdd, Nat.reduceSub, Bool.false_eq_true, if_true, if_false, reduceIte, reduceCtorEq, walkM, Int.reduceBEq, Int.reduceBNe, Int.reduceLT, Int.reduceLE, decide_true, decide_false, eq_self, Bool.not_true, Bool.not_false, ↓ev_fa, ↓ev_field, ↓ev_load, ↓ev_store, stO_cells, List.all_cons, List.all_nil, Bool.and_self, Bool.and_true, q1, ta23, callC, gy, g3, lc_0, lc_1, lc_2, Nat.zero_add]
            refine W.opsK (by kernel_rfl) ?_
            simp only [walk, walkL, evOp, quietOp, farOp, nov, gd, rho, putT, wr, Nat.reduceAdd, Nat.reduceSub, Bool.false_eq_true, if_true, if_false, reduceIte, reduceCtorEq, walkM, Int.reduceBEq, Int.reduceBNe, Int.reduceLT, Int.reduceLE, decide_true, decide_false, eq_self, Bool.not_true, Bool.not_false, ↓ev_fa, ↓ev_field, ↓ev_load, ↓ev_store, stO_cells, List.all_cons, List.all_nil, Bool.and_self, Bool.and_true]
            refine W.ite (fun q2 => ?_) (fun q2 => ?_)
            · have q2' : y.line.owner = c.a := by simpa using q2
              simp only [walk, walkL, evOp, quietOp, farOp, nov, gd, rho, putT, wr, Nat.reduceAdd, Nat.reduceSub, Bool.false_eq_true, if_true, if_false, reduceIte, reduceCtorEq, walkM, Int.reduceBEq, Int.reduceBNe, Int.reduceLT, Int.reduceLE, decide_true, decide_false, eq_self, Bool.not_true, Bool.not_false, ↓ev_fa, ↓ev_field, ↓ev_load, ↓ev_store, stO_cells, List.all_cons, List.all_nil, Bool.and_self, Bool.and_true, ta23, callC, gy, g3, lc_0, lc_1, lc_2, Nat.zero_add, wo]
              refine W.opsK (by kernel_rfl) ?_
              simp only [walk, walkL, evOp, quietOp, farOp, nov, gd, rho, putT, wr, Nat.reduceAdd, Nat.reduceSub, Bool.false_eq_true, if_true, if_false, reduceIte, reduceCtorEq, walkM, Int.reduceBEq, Int.reduceBNe, Int.reduceLT, Int.reduceLE, decide_true, decide_false, eq_self, Bool.not_true, Bool.not_false, ↓ev_fa, ↓ev_field, ↓ev_load, ↓ev_store, stO_cells, List.all_cons, List.all_nil, Bool.and_self, Bool.and_true]
              refine W.ite (fun q3 => ?_) (fun q3 => ?_)
              · have q3' : y.line.prev = c.a := by simpa using q3
                simp only [walk, walkL, evOp, quietOp, farOp, nov, gd, rho, putT, wr, Nat.reduceAdd, Nat.reduceSub, Bool.false_eq_true, if_true, if_false, reduceIte, reduceCtorEq, walkM, Int.reduceBEq, Int.reduceBNe, Int.reduceLT, Int.reduceLE, decide_true, decide_false, eq_self, Bool.not_true, Bool.not_false, ↓ev_fa, ↓ev_field, ↓ev_load, ↓ev_store, stO_cells, List.all_cons, List.all_nil, Bool.and_self, Bool.and_true, wo, wn]
                exact W.done (em (o + 1) (nx + 1) _ rfl (by simp [q1, q2']) (by simp [q3']))
              · have q3' : ¬ y.line.prev = c.a := by simpa using q3
                simp only [walk, walkL, evOp, quietOp, farOp, nov, gd, rho, putT, wr, Nat.reduceAdd, Nat.reduceSub, Bool.false_eq_true, if_true, if_false, reduceIte, reduceCtorEq, walkM, Int.reduceBEq, Int.reduceBNe, Int.reduceLT, Int.reduceLE, decide_true, decide_false, eq_self, Bool.not_true, Bool.not_false, ↓ev_fa, ↓ev_field, ↓ev_load, ↓ev_store, stO_cells, List.all_cons, List.all_nil, Bool.and_self, Bool.and_true, wo, wn]
                exact W.done (em (o + 1) nx _ rfl (by simp [q1, q2']) (by simp [q3']))
            · have q2' : ¬ y.line.owner = c.a := by simpa using q2
              simp only [walk, walkL, evOp, quietOp, farOp, nov, gd, rho, putT, wr, Nat.reduceAdd, Nat.reduceSub, Bool.false_eq_true, if_true, if_false, reduceIte, reduceCtorEq, walkM, Int.reduceBEq, Int.reduceBNe, Int.reduceLT, Int.reduceLE, decide_true, decide_false, eq_self, Bool.not_true, Bool.not_false, ↓ev_fa, ↓ev_field, ↓ev_load, ↓ev_store, stO_cells, List.all_cons, List.all_nil, Bool.and_self, Bool.and_true, ta23, callC, gy, g3, lc_0, lc_1, lc_2, Nat.zero_add, wo]
              refine W.opsK (by kernel_rfl) ?_
              simp only [walk, walkL, evOp, quietOp, farOp, nov, gd, rho, putT, wr, Nat.reduceAdd, Nat.reduceSub, Bool.false_eq_true, if_true, if_false, reduceIte, reduceCtorEq, walkM, Int.reduceBEq, Int.reduceBNe, Int.reduceLT, Int.reduceLE, decide_true, decide_false, eq_self, Bool.not_true, Bool.not_false, ↓ev_fa, ↓ev_field, ↓ev_load, ↓ev_store, stO_cells, List.all_cons, List.all_nil, Bool.and_self, Bool.and_true]
              refine W.ite (fun q3 => ?_) (fun q3 => ?_)
              · have q3' : y.line.prev = c.a := by simpa using q3
                simp only [walk, walkL, evOp, quietOp, farOp, nov, gd, rho, putT, wr, Nat.reduceAdd, Nat.reduceSub, Bool.false_eq_true, if_true, if_false, reduceIte, reduceCtorEq, walkM, Int.reduceBEq, Int.reduceBNe, Int.reduceLT, Int.reduceLE, decide_true, decide_false, eq_self, Bool.not_true, Bool.not_false, ↓ev_fa, ↓ev_field, ↓ev_load, ↓ev_store, stO_cells, List.all_cons, List.all_nil, Bool.and_self, Bool.and_true, wo, wn]
                exact W.done (em (o) (nx + 1) _ rfl (by simp [q1, q2']) (by simp [q3']))
              · have q3' : ¬ y.line.prev = c.a := by simpa using q3
                simp only [walk, walkL, evOp, quietOp, farOp, nov, gd, rho, putT, wr, Nat.reduceAdd, Nat.reduceSub, Bool.false_eq_true, if_true, if_false, reduceIte, reduceCtorEq, walkM, Int.reduceBEq, Int.reduceBNe, Int.reduceLT, Int.reduceLE, decide_true, decide_false, eq_self, Bool.not_true, Bool.not_false, ↓ev_fa, ↓ev_field, ↓ev_load, ↓ev_store, stO_cells, List.all_cons, List.all_nil, Bool.and_self, Bool.and_true, wo, wn]
                exact W.done (em (o) nx _ rfl (by simp [q1, q2']) (by simp [q3']))
          · simp only [walk, walkL, evOp, quietOp, farOp, nov, gd, rho, putT, wr, Nat.reduceAdd, Nat.reduceSub, Bool.false_eq_true, if_true, if_false, reduceIte, reduceCtorEq, walkM, Int.reduceBEq, Int.reduceBNe, Int.reduceLT, Int.reduceLE, decide_true, decide_false, eq_self, Bool.not_true, Bool.not_false, ↓ev_fa, ↓ev_field, ↓ev_load, ↓ev_store, stO_cells, List.all_cons, List.all_nil, Bool.and_self, Bool.and_true, q1, ta23, callC, gy, g3, lc_0, lc_1, lc_2, Nat.zero_add]
            refine W.opsK (by kernel_rfl) ?_
            simp only [walk, walkL, evOp, quietOp, farOp, nov, gd, rho, putT, wr, Nat.reduceAdd, Nat.reduceSub, Bool.false_eq_true, if_true, if_false, reduceIte, reduceCtorEq, walkM, Int.reduceBEq, Int.reduceBNe, Int.reduceLT, Int.reduceLE, decide_true, decide_false, eq_self, Bool.not_true, Bool.not_false, ↓ev_fa, ↓ev_field, ↓ev_load, ↓ev_store, stO_cells, List.all_cons, List.all_nil, Bool.and_self, Bool.and_true, ta23, callC, gy, g3, lc_0, lc_1, lc_2, Nat.zero_add, wo]
            refine W.opsK (by kernel_rfl) ?_
            simp only [walk, walkL, evOp, quietOp, farOp, nov, gd, rho, putT, wr, Nat.reduceAdd, Nat.reduceSub, Bool.false_eq_true, if_true, if_false, reduceIte, reduceCtorEq, walkM, Int.reduceBEq, Int.reduceBNe, Int.reduceLT, Int.reduceLE, decide_true, decide_false, eq_self, Bool.not_true, Bool.not_false, ↓ev_fa, ↓ev_field, ↓ev_load, ↓ev_store, stO_cells, List.all_cons, List.all_nil, Bool.and_self, Bool.and_true]
            refine W.ite (fun q3 => ?_) (fun q3 => ?_)
            · have q3' : y.line.prev = c.a := by simpa using q3
              simp only [walk, walkL, evOp, quietOp, farOp, nov, gd, rho, putT, wr, Nat.reduceAdd, Nat.reduceSub, Bool.false_eq_true, if_true, if_false, reduceIte, reduceCtorEq, walkM, Int.reduceBEq, Int.reduceBNe, Int.reduceLT, Int.reduceLE, decide_true, decide_false, eq_self, Bool.not_true, Bool.not_false, ↓ev_fa, ↓ev_field, ↓ev_load, ↓ev_store, stO_cells, List.all_cons, List.all_nil, Bool.and_self, Bool.and_true, wo, wn]
              exact W.done (em (o) (nx + 1) _ rfl (by simp [q1]) (by simp [q3']))
            · have q3' : ¬ y.line.prev = c.a := by simpa using q3
              simp only [walk, walkL, evOp, quietOp, farOp, nov, gd, rho, putT, wr, Nat.reduceAdd, Nat.reduceSub, Bool.false_eq_true, if_true, if_false, reduceIte, reduceCtorEq, walkM, Int.reduceBEq, Int.reduceBNe, Int.reduceLT, Int.reduceLE, decide_true, decide_false, eq_self, Bool.not_true, Bool.not_false, ↓ev_fa, ↓ev_field, ↓ev_load, ↓ev_store, stO_cells, List.all_cons, List.all_nil, Bool.and_self, Bool.and_true, wo, wn]
              exact W.done (em (o) nx _ rfl (by simp [q1]) (by simp [q3']))
    · have f3 : hget (hset K1 n 26 .dead) n 3 = _ := (hget_slot klt (by decide)).trans k3
      have f4 : hget (hset K1 n 26 .dead) n 4 = _ := (hget_slot klt (by decide)).trans k4
      have f79 : hget (hset K1 n 26 .dead) n 79 = none := (hget_slot klt (by decide)).trans k79
      have flow : ∀ f s, f < n → hget (hset K1 n 26 .dead) f s = hget H f s := fun f s h => (hget_frame klt (by omega)).trans (klow f s h)
      have flt : n < (hset K1 n 26 .dead).length := by simp only [hset_length]; exact klt
      generalize hset K1 n 26 .dead = K2 at *
      have fm : hget K2 h.mf h.ms = some (.map (encL xs) bs clk) := (flow _ _ B.lt).trans hm
      have fc : hget K2 h.f h.s = _ := (flow _ _ A.lt).trans hh.cell
      have fx : hget K2 x.loc.f x.loc.s = _ := (flow _ _ X.lt).trans hL.cells
      have chf : ∀ v o, Ch H (popF n v (hset K2 n 4 o)) [] := fun v o => Ch.fin hn flow flt (Ch.refl K2)
      have busy : ((!x.line.snap && decide (0 < owns S.lines c.a)) || (x.line.snap && decide (1 < nexts S.lines c.a))) = true → ∀ v o, RepV (failV 230) (hDestroy S c).2 ∧ HouseOut H (popF n v (hset K2 n 4 o)) h (hDestroy S c).1 ∧ Aside H (popF n v (hset K2 n 4 o)) := fun hq v o => bad _ 230 (by rw [hw2, if_pos hq]) (chf v o)
      clear m1 c1 er k3 k4 k26 k79
      have i1 : (decide ((owns S.lines c.a : Int) > 0)) = decide (0 < owns S.lines c.a) := by
        by_cases q : 0 < owns S.lines c.a
        · rw [decide_eq_true q]; exact decide_eq_true (by omega)
        · rw [decide_eq_false q]; exact decide_eq_false (by omega)
      have i2 : (decide ((nexts S.lines c.a : Int) > 1)) = decide (1 < nexts S.lines c.a) := by
        by_cases q : 1 < nexts S.lines c.a
        · rw [decide_eq_true q]; exact decide_eq_true (by omega)
        · rw [decide_eq_false q]; exact decide_eq_false (by omega)
      simp only [st23_6, List.set_cons_succ, List.set_cons_zero]
      have hu := hh.uniq ok
      have hxp : x.line.prev ≠ c.a := prev_ne ok (i := c.a) (L := x.line) (by rw [hw]; rfl)
      have Yh : ∀ y ∈ xs, hget H y.loc.f y.loc.s = some (.cells (lineC y.loc y.line.snap y.line.owner y.line.prev (lo y))) := fun y hy => by
        obtain ⟨b, k, hk⟩ := hlo y hy; exact hk.cells
      obtain ⟨gw, hgw⟩ : ∃ gw : Ent → O, gw = fun y => .cells (lineC y.loc y.line.snap y.line.owner x.line.prev (lo y)) := ⟨_, rfl⟩
      cases hs : x.line.snap with
      | false =>
        rw [hs] at busy hw2
        cases hq : decide (0 < owns S.lines c.a) with
        | true =>
          simp only [walk, walkL, evOp, quietOp, farOp, nov, gd, rho, putT, wr, Nat.reduceAdd, Nat.reduceSub, Bool.false_eq_true, if_true, if_false, reduceIte, reduceCtorEq, walkM, Int.reduceBEq, Int.reduceBNe, Int.reduceLT, Int.reduceLE, decide_true, decide_false, eq_self, Bool.not_true, Bool.not_false, ↓ev_fa, ↓ev_field, ↓ev_load, ↓ev_store, stO_cells, List.all_cons, List.all_nil, Bool.and_self, Bool.and_true, ta23, fx, hs, Nat.zero_add, lc_0, i1, i2, hq]
          refine W.pcall (fails_fz 230) rfl rfl rfl ?_
          rintro _ rfl
          simp only [walk, walkL, evOp, quietOp, farOp, nov, gd, rho, putT, wr, Nat.reduceAdd, Nat.reduceSub, Bool.false_eq_true, if_true, if_false, reduceIte, reduceCtorEq, walkM, Int.reduceBEq, Int.reduceBNe, Int.reduceLT, Int.reduceLE, decide_true, decide_false, eq_self, Bool.not_true, Bool.not_false, ↓ev_fa, ↓ev_field, ↓ev_load, ↓ev_store, stO_cells, List.all_cons, List.all_nil, Bool.and_self, Bool.and_true, failV, ta23, new, hget_hset', hset_length, and_false, false_and, and_true, true_and, and_self, Nat.reduceEqDiff, Nat.reduceLT, Nat.lt_irrefl, Nat.not_lt_zero, flt, f4, splice, zerosN, fillV, walkB, pureL, V.pure, Nat.reduceMul, Nat.reduceLeDiff, Nat.one_ne_zero, List.take_zero, List.drop_succ_cons, List.drop_zero, List.take_succ_cons, List.replicate_one, List.drop_nil, List.take_nil, Nat.le_refl, Nat.zero_add, Nat.zero_mul, Nat.one_mul, Nat.mul_one]
          exact W.done (EndK.ret (res_cell rfl rfl (hget_same (by first | exact F.lt | assumption | (simp only [hset_length]; first | exact F.lt | assumption))) (by rw [rd36]; rfl)) (busy (by simp [hq]) _ _))
        | false =>
          simp only [walk, walkL, evOp, quietOp, farOp, nov, gd, rho, putT, wr, Nat.reduceAdd, Nat.reduceSub, Bool.false_eq_true, if_true, if_false, reduceIte, reduceCtorEq, walkM, Int.reduceBEq, Int.reduceBNe, Int.reduceLT, Int.reduceLE, decide_true, decide_false, eq_self, Bool.not_true, Bool.not_false, ↓ev_fa, ↓ev_field, ↓ev_load, ↓ev_store, stO_cells, List.all_cons, List.all_nil, Bool.and_self, Bool.and_true, ta23, fx, hs, Nat.zero_add, lc_0, i1, i2, hq]
          have er2 := ev_range (P := Try.prog) (d := 79) Try.underlying44 fm f79
          simp only [walk, walkL, evOp, quietOp, farOp, nov, gd, rho, putT, wr, Nat.reduceAdd, Nat.reduceSub, Bool.false_eq_true, if_true, if_false, reduceIte, reduceCtorEq, walkM, Int.reduceBEq, Int.reduceBNe, Int.reduceLT, Int.reduceLE, decide_true, decide_false, eq_self, Bool.not_true, Bool.not_false, ↓ev_fa, ↓ev_field, ↓ev_load, ↓ev_store, stO_cells, List.all_cons, List.all_nil, Bool.and_self, Bool.and_true, ta23, new, hget_hset', hset_length, and_false, false_and, and_true, true_and, and_self, Nat.reduceEqDiff, Nat.reduceLT, Nat.lt_irrefl, Nat.not_lt_zero, zerosN, fillV, walkB, pureL, V.pure, Nat.reduceMul, Nat.reduceLeDiff, Nat.one_ne_zero, List.take_zero, List.drop_succ_cons, List.drop_zero, List.take_succ_cons, List.replicate_one, List.drop_nil, List.take_nil, Nat.le_refl, Nat.zero_add, Nat.zero_mul, Nat.one_mul, Nat.mul_one, fc, ↓er2]
          refine W.ul ?_
          refine W.range (d := some 80) (k := _) rfl rfl (.exit 2, ((st23_15 (.ptr h.f h.s 0) (.ptr n 3 0) (.ptr n 4 0) (.ptr x.loc.f x.loc.s 0) (.ptr n 79 0)).set 80 (.tuple [.bool false])).set 81 (.bool false), hset (upds gw K2 (xs.filter fun y => decide (y.line.prev = c.a))) n 79 .dead)
            (fun (a : List Nat × List Ent) t H1 => maskT [0, 3, 4, 5, 79] t 0 = st23_15 (.ptr h.f h.s 0) (.ptr n 3 0) (.ptr n 4 0) (.ptr x.loc.f x.loc.s 0) (.ptr n 79 0) ∧ H1 = hset (upds gw K2 a.2) n 79 (.iter (some (h.mf, h.ms)) clk a.1 clk) ∧
              (a.2 ++ ((leftX a.1 xs bs).map (·.1)).filter fun y => decide (y.line.prev = c.a)).Perm (xs.filter fun y => decide (y.line.prev = c.a)))
            (fun a => (leftX a.1 xs bs).length) ?_ ([], []) ⟨rfl, rfl, by rw [leftX_nil xs bs Hlen]; exact .refl _⟩ ?_
          · rintro ⟨seen, done⟩ t H1 ⟨ht, rfl, hperm⟩
            simp only at ht hperm
            have hd1 : ∀ d ∈ done, d ∈ xs ∧ d.line.prev = c.a := fun d hd => by
              have := hperm.mem_iff.1 (List.mem_append_left _ hd)
              rw [List.mem_filter] at this
              exact ⟨this.1, by simpa using this.2⟩
            have dlt : ∀ d ∈ done, d.loc.f < K2.length := fun d hd => by have := (Yg d (hd1 d hd).1).2; omega
            have ult : n < (upds gw K2 done).length := by rw [upds_len]; exact flt
            have dn : ∀ (s : Nat) (d : Ent), d ∈ done → ¬ (n = d.loc.f ∧ s = d.loc.s) := fun s d hd e => by have := (Yg d (hd1 d hd).1).2; omega
            have m2 : ∀ o, hget (hset (upds gw K2 done) n 79 o) h.mf h.ms = some (.map (encL xs) bs clk) := fun o => by
              rw [hget_frame ult (by have := B.lt; omega), upds_other gw K2 done dlt (fun d hd => hh.d3 (hd1 d hd).1)]; exact fm
            obtain ⟨cs, hcs, hall⟩ := nextC_map (g := hget (hset (upds gw K2 done) n 79 (.iter (some (h.mf, h.ms)) clk seen clk))) (hget_same ult) (m2 _) hb.lt (Nat.le_refl clk)
            refine ⟨_, _, cs, forget_keep (kt := [0, 3, 4, 5, 79]) rfl, ?_, fun d hd => ?_⟩
            · rw [ht]; exact hcs
            · rw [ht]
              rw [encL_eq, leftE_map encX] at hall
              rcases hall d hd with ⟨hnil, rfl⟩ | ⟨e, he, rfl⟩
              · have hnil2 : leftX seen xs bs = [] := List.map_eq_nil_iff.1 hnil
                rw [hnil2] at hperm
                simp only [List.map_nil, List.filter_nil, List.append_nil] at hperm
                rw [← upds_perm gw K2 hperm fun a ha b hb => place_eq hu hh.apart (hd1 a ha).1 (hd1 b hb).1]
                simp only [st23_15]
                simp only [walk, walkL, evOp, quietOp, farOp, nov, gd, rho, putT, wr, Nat.reduceAdd, Nat.reduceSub, Bool.false_eq_true, if_true, if_false, reduceIte, reduceCtorEq, walkM, Int.reduceBEq, Int.reduceBNe, Int.reduceLT, Int.reduceLE, decide_true, decide_false, eq_self, Bool.not_true, Bool.not_false, ↓ev_fa, ↓ev_field, ↓ev_load, ↓ev_store, stO_cells, List.all_cons, List.all_nil, Bool.and_self, Bool.and_true, hset_hset]
                exact W.done rfl
              · obtain ⟨⟨y, b⟩, hyb, rfl⟩ := List.mem_map.1 he
                have hym : y ∈ xs := (leftX_mem hyb).1
                have hp2 := leftX_perm hb.uniq hyb
                have e3 := hp2.length_eq
                simp only [List.length_cons] at e3
                -- y was not met
                have hnd : ∀ d ∈ done, ¬ (y.loc.f = d.loc.f ∧ y.loc.s = d.loc.s) := by
                  intro d hd hq
                  have e := place_eq hu hh.apart hym (hd1 d hd).1 hq
                  subst e
                  have hnod : (xs.filter fun y => decide (y.line.prev = c.a)).Pairwise fun x y => x.id ≠ y.id := hu.sublist (List.filter_sublist)
                  have h2 := (hperm.pairwise_iff (fun h => h.symm)).2 hnod
                  rw [List.pairwise_append] at h2
                  have hyl : y ∈ ((leftX seen xs bs).map (·.1)).filter fun y => decide (y.line.prev = c.a) := List.mem_filter.2 ⟨List.mem_map.2 ⟨_, hyb, rfl⟩, by simpa using (hd1 y hd).2⟩
                  exact h2.2.2 y hd y hyl rfl
                have hxd : ∀ d ∈ done, ¬ (x.loc.f = d.loc.f ∧ x.loc.s = d.loc.s) := by
                  intro d hd hq
                  have e := place_eq hu hh.apart hxm (hd1 d hd).1 hq
                  subst e
                  exact hxp (hd1 x hd).2
                have gy : hget (hset (upds gw K2 done) n 79 (.iter (some (h.mf, h.ms)) clk (seen ++ [b]) clk)) y.loc.f y.loc.s = _ := (hget_frame ult (by have := (Yg y hym).2; omega)).trans ((upds_other gw K2 done dlt hnd).trans ((flow _ _ (Yg y hym).2).trans (Yh y hym)))
                have gx : hget (hset (upds gw K2 done) n 79 (.iter (some (h.mf, h.ms)) clk (seen ++ [b]) clk)) x.loc.f x.loc.s = _ := (hget_frame ult (by have := X.lt; omega)).trans ((upds_other gw K2 done dlt hxd).trans fx)
                have g3 : hget (hset (upds gw K2 done) n 79 (.iter (some (h.mf, h.ms)) clk (seen ++ [b]) clk)) n 3 = _ := (hget_slot ult (by decide)).trans ((upds_other gw K2 done dlt (dn 3)).trans f3)
                have en := ev_entry (hget_same (o := .iter (some (h.mf, h.ms)) clk (seen ++ [b]) clk) ult) (m2 _) hb.uniq hyb
                have yl1 : y.loc.f < (hset (upds gw K2 done) n 79 (.iter (some (h.mf, h.ms)) clk (seen ++ [b]) clk)).length := by rw [hset_length, upds_len]; have := (Yg y hym).2; omega
                simp only [encX, st23_15]
                simp only [walk, walkL, evOp, quietOp, farOp, nov, gd, rho, putT, wr, Nat.reduceAdd, Nat.reduceSub, Bool.false_eq_true, if_true, if_false, reduceIte, reduceCtorEq, walkM, Int.reduceBEq, Int.reduceBNe, Int.reduceLT, Int.reduceLE, decide_true, decide_false, eq_self, Bool.not_true, Bool.not_false, ↓ev_fa, ↓ev_field, ↓ev_load, ↓ev_store, stO_cells, List.all_cons, List.all_nil, Bool.and_self, Bool.and_true, hset_hset, ↓en, ta23, callC, gy, g3, lc_0, lc_1, lc_2, Nat.zero_add]
                refine W.opsK (by kernel_rfl) ?_
                simp only [walk, walkL, evOp, quietOp, farOp, nov, gd, rho, putT, wr, Nat.reduceAdd, Nat.reduceSub, Bool.false_eq_true, if_true, if_false, reduceIte, reduceCtorEq, walkM, Int.reduceBEq, Int.reduceBNe, Int.reduceLT, Int.reduceLE, decide_true, decide_false, eq_self, Bool.not_true, Bool.not_false, ↓ev_fa, ↓ev_field, ↓ev_load, ↓ev_store, stO_cells, List.all_cons, List.all_nil, Bool.and_self, Bool.and_true]
                refine W.ite (fun q3 => ?_) (fun q3 => ?_)
                · have q3' : y.line.prev = c.a := by simpa using q3
                  simp only [walk, walkL, evOp, quietOp, farOp, nov, gd, rho, putT, wr, Nat.reduceAdd, Nat.reduceSub, Bool.false_eq_true, if_true, if_false, reduceIte, reduceCtorEq, walkM, Int.reduceBEq, Int.reduceBNe, Int.reduceLT, Int.reduceLE, decide_true, decide_false, eq_self, Bool.not_true, Bool.not_false, ↓ev_fa, ↓ev_field, ↓ev_load, ↓ev_store, stO_cells, List.all_cons, List.all_nil, Bool.and_self, Bool.and_true, ta23, zerosN, fillV, walkB, pureL, V.pure, Nat.reduceMul, Nat.reduceLeDiff, Nat.one_ne_zero, and_self, and_true, true_and, List.take_zero, List.drop_succ_cons, List.drop_zero, List.take_succ_cons, List.replicate_one, List.drop_nil, List.take_nil, Nat.le_refl, Nat.zero_add, Nat.zero_mul, Nat.one_mul, Nat.mul_one, gx, gy, lc_2, st_prev (a := y.loc) (sn := y.line.snap) (ow := y.line.owner) (pr := y.line.prev) (l := lo y) (f := y.loc.f) (s := y.loc.s) (n := x.line.prev)]
                  refine W.done ⟨(seen ++ [b], y :: done), ⟨rfl, ?_, ?_⟩, by simp only; omega⟩
                  · rw [hset_comm _ _ _ (fun e => by have := (Yg y hym).2; omega)]
                    simp only
                    rw [show upds gw K2 (y :: done) = hset (upds gw K2 done) y.loc.f y.loc.s (gw y) from rfl]
                    simp only [hgw]
                  · simp only
                    refine List.Perm.trans ?_ hperm
                    have h3 := ((hp2.map (·.1)).filter fun y => decide (y.line.prev = c.a))
                    rw [List.map_cons, List.filter_cons, if_pos (by simpa using q3')] at h3
                    refine List.Perm.trans ?_ (List.Perm.append_left done h3.symm)
                    exact (List.perm_middle).symm
                · have q3' : ¬ y.line.prev = c.a := by simpa using q3
                  simp only [walk, walkL, evOp, quietOp, farOp, nov, gd, rho, putT, wr, Nat.reduceAdd, Nat.reduceSub, Bool.false_eq_true, if_true, if_false, reduceIte, reduceCtorEq, walkM, Int.reduceBEq, Int.reduceBNe, Int.reduceLT, Int.reduceLE, decide_true, decide_false, eq_self, Bool.not_true, Bool.not_false, ↓ev_fa, ↓ev_field, ↓ev_load, ↓ev_store, stO_cells, List.all_cons, List.all_nil, Bool.and_self, Bool.and_true]
                  refine W.done ⟨(seen ++ [b], done), ⟨rfl, rfl, ?_⟩, by simp only; omega⟩
                  simp only
                  refine List.Perm.trans ?_ hperm
                  have h3 := ((hp2.map (·.1)).filter fun y => decide (y.line.prev = c.a))
                  rw [List.map_cons, List.filter_cons, if_neg (by simpa using q3')] at h3
                  exact List.Perm.append_left done h3.symm
          · simp only [st23_15, List.set_cons_succ, List.set_cons_zero]
            have hfl : ∀ d ∈ (xs.filter fun y => decide (y.line.prev = c.a)), d ∈ xs ∧ d.line.prev = c.a := fun d hd => by
              rw [List.mem_filter] at hd
              exact ⟨hd.1, by simpa using hd.2⟩
            have dlt : ∀ d ∈ (xs.filter fun y => decide (y.line.prev = c.a)), d.loc.f < K2.length := fun d hd => by have := (Yg d (hfl d hd).1).2; omega
            generalize hFL : (xs.filter fun y => decide (y.line.prev = c.a)) = FL at *
            have ult : n < (upds gw K2 FL).length := by rw [upds_len]; exact flt
            have dn : ∀ (s : Nat) (d : Ent), d ∈ FL → ¬ (n = d.loc.f ∧ s = d.loc.s) := fun s d hd e => by have := (Yg d (hfl d hd).1).2; omega
            have g3 : hget (hset (upds gw K2 FL) n 79 .dead) n 3 = _ := (hget_slot ult (by decide)).trans ((upds_other gw K2 FL dlt (dn 3)).trans f3)
            have g4 : hget (hset (upds gw K2 FL) n 79 .dead) n 4 = _ := (hget_slot ult (by decide)).trans ((upds_other gw K2 FL dlt (dn 4)).trans f4)
            have glow : ∀ f s, f < n → hget (hset (upds gw K2 FL) n 79 .dead) f s = hget (upds gw K2 FL) f s := fun f s h => hget_frame ult (by omega)
            have glt : n < (hset (upds gw K2 FL) n 79 .dead).length := by rw [hset_length]; exact ult
            have ulen : (hset (upds gw K2 FL) n 79 .dead).length = K2.length := by rw [hset_length, upds_len]
            generalize hset (upds gw K2 FL) n 79 .dead = K3 at *
            have gm : hget K3 h.mf h.ms = some (.map (encL xs) bs clk) := by
              rw [glow _ _ B.lt, upds_other gw K2 FL dlt (fun d hd => hh.d3 (hfl d hd).1)]; exact fm
            have gc : hget K3 h.f h.s = some (.cells [.int .i64 S.last, .map h.mf h.ms]) := by
              rw [glow _ _ A.lt, upds_other gw K2 FL dlt (fun d hd => hh.d1 (hfl d hd).1)]; exact fc
            obtain ⟨bs', hb', hdel⟩ := del_lines (mf := h.mf) (ms := h.ms) hb hx
            have ml : h.mf < K3.length := by have := B.lt; omega
            have mn : ¬ n = h.mf := by have := B.lt; omega
            simp only [walk, walkL, evOp, quietOp, farOp, nov, gd, rho, putT, wr, Nat.reduceAdd, Nat.reduceSub, Bool.false_eq_true, if_true, if_false, reduceIte, reduceCtorEq, walkM, Int.reduceBEq, Int.reduceBNe, Int.reduceLT, Int.reduceLE, decide_true, decide_false, eq_self, Bool.not_true, Bool.not_false, ↓ev_fa, ↓ev_field, ↓ev_load, ↓ev_store, stO_cells, List.all_cons, List.all_nil, Bool.and_self, Bool.and_true, ta23, new, hget_hset', hset_length, and_false, false_and, and_true, true_and, and_self, Nat.reduceEqDiff, Nat.reduceLT, Nat.lt_irrefl, Nat.not_lt_zero, zerosN, fillV, walkB, pureL, V.pure, Nat.reduceMul, Nat.reduceLeDiff, Nat.one_ne_zero, List.take_zero, List.drop_succ_cons, List.drop_zero, List.take_succ_cons, List.replicate_one, List.drop_nil, List.take_nil, Nat.le_refl, Nat.zero_add, Nat.zero_mul, Nat.one_mul, Nat.mul_one, gc, g3, callC, bi_delete, ↓hdel _ gm]
            refine W.opsK (by kernel_rfl) ?_
            simp only [walk, walkL, evOp, quietOp, farOp, nov, gd, rho, putT, wr, Nat.reduceAdd, Nat.reduceSub, Bool.false_eq_true, if_true, if_false, reduceIte, reduceCtorEq, walkM, Int.reduceBEq, Int.reduceBNe, Int.reduceLT, Int.reduceLE, decide_true, decide_false, eq_self, Bool.not_true, Bool.not_false, ↓ev_fa, ↓ev_field, ↓ev_load, ↓ev_store, stO_cells, List.all_cons, List.all_nil, Bool.and_self, Bool.and_true, ta23, new, hget_hset', hset_length, and_false, false_and, and_true, true_and, and_self, Nat.reduceEqDiff, Nat.reduceLT, Nat.lt_irrefl, Nat.not_lt_zero, splice, zerosN, fillV, walkB, pureL, V.pure, Nat.reduceMul, Nat.reduceLeDiff, Nat.one_ne_zero, List.take_zero, List.drop_succ_cons, List.drop_zero, List.take_succ_cons, List.replicate_one, List.drop_nil, List.take_nil, Nat.le_refl, Nat.zero_add, Nat.zero_mul, Nat.one_mul, Nat.mul_one, glt, g4, ml, mn]
            refine W.done (EndK.ret (res_cell rfl rfl (hget_same (by first | exact F.lt | assumption | (simp only [hset_length]; first | exact F.lt | assumption))) (by rw [rd36]; rfl)) ?_)
            rw [hw2]
            rw [if_neg (by simp only [hq]; simp)]
            have last : ∀ f s, f < n → ¬ (f = h.mf ∧ s = h.ms) → ∀ v o, hget (popF n v (hset (hset K3 h.mf h.ms (.map (encL (dropE xs c.a)) bs' clk)) n 4 o)) f s = hget (upds gw K2 FL) f s := fun f s h1 h2 v o => by
              rw [popF_get h1, hget_frame (by rw [hset_length]; exact glt) (by omega), hget_ne ml h2, glow f s h1]
            refine ⟨rep_fail 0, ⟨dropE (repE xs c.a x.line.prev) c.a, kl, ?_, hh.kOut⟩, ?_⟩
            rotate_left
            · refine ⟨Nat.le_trans (by omega) (popF_len (n := n) (by simp only [hset_length]; omega)), fun f s o g1 g2 => ?_⟩
              have hf := hget_lt g1
              have hn16 : ∀ y ∈ xs, (lo y).length = 16 := fun y hy => by
                obtain ⟨b, k, hk⟩ := hlo y hy
                rw [hk.obs.len]; exact (ok.ok (y.id, y.line) (by rw [hh.lines]; exact List.mem_map.2 ⟨y, hy, rfl⟩)).n16
              rw [last f s (by omega) (aside_ne g1 g2 hm rfl), upds_other gw K2 FL dlt (fun d hd => aside_ne g1 g2 (Yh d (hfl d hd).1) (as_line (hn16 d (hfl d hd).1))), flow f s (by omega)]
              exact g1
            have memx : ∀ y ∈ dropE (repE xs c.a x.line.prev) c.a, ∃ z ∈ xs, y.loc = z.loc ∧ y.line.key = z.line.key ∧ y = (if z.line.prev = c.a then { z with line := { z.line with prev := x.line.prev } } else z) := by
              intro y hy
              obtain ⟨z, hz, rfl⟩ := List.mem_map.1 ((dropE_sub _ _).mem hy)
              refine ⟨z, hz, ?_, ?_, rfl⟩ <;> split <;> rfl
            have hFm : ∀ z ∈ xs, z.line.prev = c.a → z ∈ FL := fun z hz hq => by rw [← hFL, List.mem_filter]; exact ⟨hz, by simpa using hq⟩
            refine ⟨?_, ⟨bs', clk, ?_, ?_⟩, ?_, fun y hy => ?_, fun y hy => ?_, fun i q hq => ?_, hh.klen, ?_, hh.kapart⟩
            · rw [last _ _ A.lt (map_cells_ne hh.cell hm), upds_other gw K2 FL dlt (fun d hd => hh.d1 (hfl d hd).1)]; exact fc
            · rw [popF_get B.lt, hget_frame (by rw [hset_length]; exact glt) B.ne, hget_same ml, dropE_rep_enc]
            · rw [dropE_rep_len]; exact hb'
            · rw [dropE_lines, repE_lines, ← hh.lines]
            · obtain ⟨z, hz, e1, e2, e3⟩ := memx y hy
              obtain ⟨bz, kz, hLz⟩ := hlo z hz
              have zf := (Yg z hz).2
              have znf : z.loc.nf < n := by have := hget_lt hLz.names; omega
              have znm : ∀ v o, hget (popF n v (hset (hset K3 h.mf h.ms (.map (encL (dropE xs c.a)) bs' clk)) n 4 o)) z.loc.nf z.loc.ns = some (.map (encN z.line.names) bz kz) := fun v o => (last _ _ znf (fun e => hh.d4 hz ⟨e.1.symm, e.2.symm⟩) v o).trans ((upds_other gw K2 FL dlt (fun d hd e => (hh.line d (hfl d hd).1).apartNC (hh.line z hz) ⟨e.1.symm, e.2.symm⟩)).trans ((flow _ _ znf).trans hLz.names))
              by_cases hq : z.line.prev = c.a
              · rw [if_pos hq] at e3
                subst e3
                refine ⟨lo z, bz, kz, hLz.obs, ?_, znm _ _, hLz.born⟩
                rw [last _ _ zf (fun e => hh.d3 hz ⟨e.1.symm, e.2.symm⟩), upds_at gw K2 FL dlt (hFm z hz hq) (fun e he q => place_eq hu hh.apart (hfl e he).1 hz ⟨q.1.symm, q.2.symm⟩), hgw]
              · rw [if_neg hq] at e3
                subst e3
                refine ⟨lo y, bz, kz, hLz.obs, ?_, znm _ _, hLz.born⟩
                rw [last _ _ zf (fun e => hh.d3 hz ⟨e.1.symm, e.2.symm⟩), upds_other gw K2 FL dlt (fun d hd e => hq (by rw [place_eq hu hh.apart hz (hfl d hd).1 e]; exact (hfl d hd).2)), flow _ _ zf]
                exact hLz.cells
            · obtain ⟨z, hz, e1, e2, e3⟩ := memx y hy
              rw [e1, e2]; exact hh.key z hz
            · obtain ⟨k, h1, h2⟩ := hh.keys i q hq
              refine ⟨k, h1, ?_⟩
              have qn : q.1 < n := by have := hget_lt h2; omega
              rw [last _ _ qn (map_cells_ne h2 hm), upds_other gw K2 FL dlt (fun d hd => (hh.d6 (hfl d hd).1 hq).1), flow _ _ qn]
              exact h2
            · refine List.Pairwise.sublist (dropE_sub _ _) ?_
              rw [repE, List.pairwise_map]
              refine hh.apart.imp fun {a b} h => ?_
              unfold Apart at h ⊢
              split <;> split <;> exact h
      | true =>
        rw [hs] at busy hw2
        cases hq : decide (1 < nexts S.lines c.a) with
        | true =>
          simp only [walk, walkL, evOp, quietOp, farOp, nov, gd, rho, putT, wr, Nat.reduceAdd, Nat.reduceSub, Bool.false_eq_true, if_true, if_false, reduceIte, reduceCtorEq, walkM, Int.reduceBEq, Int.reduceBNe, Int.reduceLT, Int.reduceLE, decide_true, decide_false, eq_self, Bool.not_true, Bool.not_false, ↓ev_fa, ↓ev_field, ↓ev_load, ↓ev_store, stO_cells, List.all_cons, List.all_nil, Bool.and_self, Bool.and_true, ta23, fx, hs, Nat.zero_add, lc_0, i1, i2, hq]
          refine W.pcall (fails_fz 230) rfl rfl rfl ?_
          rintro _ rfl
          simp only [walk, walkL, evOp, quietOp, farOp, nov, gd, rho, putT, wr, Nat.reduceAdd, Nat.reduceSub, Bool.false_eq_true, if_true, if_false, reduceIte, reduceCtorEq, walkM, Int.reduceBEq, Int.reduceBNe, Int.reduceLT, Int.reduceLE, decide_true, decide_false, eq_self, Bool.not_true, Bool.not_false, ↓ev_fa, ↓ev_field, ↓ev_load, ↓ev_store, stO_cells, List.all_cons, List.all_nil, Bool.and_self, Bool.and_true, failV, ta23, new, hget_hset', hset_length, and_false, false_and, and_true, true_and, and_self, Nat.reduceEqDiff, Nat.reduceLT, Nat.lt_irrefl, Nat.not_lt_zero, flt, f4, splice, zerosN, fillV, walkB, pureL, V.pure, Nat.reduceMul, Nat.reduceLeDiff, Nat.one_ne_zero, List.take_zero, List.drop_succ_cons, List.drop_zero, List.take_succ_cons, List.replicate_one, List.drop_nil, List.take_nil, Nat.le_refl, Nat.zero_add, Nat.zero_mul, Nat.one_mul, Nat.mul_one]
          exact W.done (EndK.ret (res_cell rfl rfl (hget_same (by first | exact F.lt | assumption | (simp only [hset_length]; first | exact F.lt | assumption))) (by rw [rd36]; rfl)) (busy (by simp [hq]) _ _))
        | false =>
          simp only [walk, walkL, evOp, quietOp, farOp, nov, gd, rho, putT, wr, Nat.reduceAdd, Nat.reduceSub, Bool.false_eq_true, if_true, if_false, reduceIte, reduceCtorEq, walkM, Int.reduceBEq, Int.reduceBNe, Int.reduceLT, Int.reduceLE, decide_true, decide_false, eq_self, Bool.not_true, Bool.not_false, ↓ev_fa, ↓ev_field, ↓ev_load, ↓ev_store, stO_cells, List.all_cons, List.all_nil, Bool.and_self, Bool.and_true, ta23, fx, hs, Nat.zero_add, lc_0, i1, i2, hq]
          have er2 := ev_range (P := Try.prog) (d := 79) Try.underlying44 fm f79
          simp only [walk, walkL, evOp, quietOp, farOp, nov, gd, rho, putT, wr, Nat.reduceAdd, Nat.reduceSub, Bool.false_eq_true, if_true, if_false, reduceIte, reduceCtorEq, walkM, Int.reduceBEq, Int.reduceBNe, Int.reduceLT, Int.reduceLE, decide_true, decide_false, eq_self, Bool.not_true, Bool.not_false, ↓ev_fa, ↓ev_field, ↓ev_load, ↓ev_store, stO_cells, List.all_cons, List.all_nil, Bool.and_self, Bool.and_true, ta23, new, hget_hset', hset_length, and_false, false_and, and_true, true_and, and_self, Nat.reduceEqDiff, Nat.reduceLT, Nat.lt_irrefl, Nat.not_lt_zero, zerosN, fillV, walkB, pureL, V.pure, Nat.reduceMul, Nat.reduceLeDiff, Nat.one_ne_zero, List.take_zero, List.drop_succ_cons, List.drop_zero, List.take_succ_cons, List.replicate_one, List.drop_nil, List.take_nil, Nat.le_refl, Nat.zero_add, Nat.zero_mul, Nat.one_mul, Nat.mul_one, fc, ↓er2]
          refine W.ul ?_
          refine W.range (d := some 80) (k := _) rfl rfl (.exit 2, ((st23_15 (.ptr h.f h.s 0) (.ptr n 3 0) (.ptr n 4 0) (.ptr x.loc.f x.loc.s 0) (.ptr n 79 0)).set 80 (.tuple [.bool false])).set 81 (.bool false), hset (upds gw K2 (xs.filter fun y => decide (y.line.prev = c.a))) n 79 .dead)
            (fun (a : List Nat × List Ent) t H1 => maskT [0, 3, 4, 5, 79] t 0 = st23_15 (.ptr h.f h.s 0) (.ptr n 3 0) (.ptr n 4 0) (.ptr x.loc.f x.loc.s 0) (.ptr n 79 0) ∧ H1 = hset (upds gw K2 a.2) n 79 (.iter (some (h.mf, h.ms)) clk a.1 clk) ∧
              (a.2 ++ ((leftX a.1 xs bs).map (·.1)).filter fun y => decide (y.line.prev = c.a)).Perm (xs.filter fun y => decide (y.line.prev = c.a)))
            (fun a => (leftX a.1 xs bs).length) ?_ ([], []) ⟨rfl, rfl, by rw [leftX_nil xs bs Hlen]; exact .refl _⟩ ?_
          · rintro ⟨seen, done⟩ t H1 ⟨ht, rfl, hperm⟩
            simp only at ht hperm
            have hd1 : ∀ d ∈ done, d ∈ xs ∧ d.line.prev = c.a := fun d hd => by
              have := hperm.mem_iff.1 (List.mem_append_left _ hd)
              rw [List.mem_filter] at this
              exact ⟨this.1, by simpa using this.2⟩
            have dlt : ∀ d ∈ done, d.loc.f < K2.length := fun d hd => by have := (Yg d (hd1 d hd).1).2; omega
            have ult : n < (upds gw K2 done).length := by rw [upds_len]; exact flt
            have dn : ∀ (s : Nat) (d : Ent), d ∈ done → ¬ (n = d.loc.f ∧ s = d.loc.s) := fun s d hd e => by have := (Yg d (hd1 d hd).1).2; omega
            have m2 : ∀ o, hget (hset (upds gw K2 done) n 79 o) h.mf h.ms = some (.map (encL xs) bs clk) := fun o => by
              rw [hget_frame ult (by have := B.lt; omega), upds_other gw K2 done dlt (fun d hd => hh.d3 (hd1 d hd).1)]; exact fm
            obtain ⟨cs, hcs, hall⟩ := nextC_map (g := hget (hset (upds gw K2 done) n 79 (.iter (some (h.mf, h.ms)) clk seen clk))) (hget_same ult) (m2 _) hb.lt (Nat.le_refl clk)
            refine ⟨_, _, cs, forget_keep (kt := [0, 3, 4, 5, 79]) rfl, ?_, fun d hd => ?_⟩
            · rw [ht]; exact hcs
            · rw [ht]
              rw [encL_eq, leftE_map encX] at hall
              rcases hall d hd with ⟨hnil, rfl⟩ | ⟨e, he, rfl⟩
              · have hnil2 : leftX seen xs bs = [] := List.map_eq_nil_iff.1 hnil
                rw [hnil2] at hperm
                simp only [List.map_nil, List.filter_nil, List.append_nil] at hperm
                rw [← upds_perm gw K2 hperm fun a ha b hb => place_eq hu hh.apart (hd1 a ha).1 (hd1 b hb).1]
                simp only [st23_15]
                simp only [walk, walkL, evOp, quietOp, farOp, nov, gd, rho, putT, wr, Nat.reduceAdd, Nat.reduceSub, Bool.false_eq_true, if_true, if_false, reduceIte, reduceCtorEq, walkM, Int.reduceBEq, Int.reduceBNe, Int.reduceLT, Int.reduceLE, decide_true, decide_false, eq_self, Bool.not_true, Bool.not_false, ↓ev_fa, ↓ev_field, ↓ev_load, ↓ev_store, stO_cells, List.all_cons, List.all_nil, Bool.and_self, Bool.and_true, hset_hset]
                exact W.done rfl
              · obtain ⟨⟨y, b⟩, hyb, rfl⟩ := List.mem_map.1 he
                have hym : y ∈ xs := (leftX_mem hyb).1
                have hp2 := leftX_perm hb.uniq hyb
                have e3 := hp2.length_eq
                simp only [List.length_cons] at e3
                -- y was not met
                have hnd : ∀ d ∈ done, ¬ (y.loc.f = d.loc.f ∧ y.loc.s = d.loc.s) := by
                  intro d hd hq
                  have e := place_eq hu hh.apart hym (hd1 d hd).1 hq
                  subst e
                  have hnod : (xs.filter fun y => decide (y.line.prev = c.a)).Pairwise fun x y => x.id ≠ y.id := hu.sublist (List.filter_sublist)
                  have h2 := (hperm.pairwise_iff (fun h => h.symm)).2 hnod
                  rw [List.pairwise_append] at h2
                  have hyl : y ∈ ((leftX seen xs bs).map (·.1)).filter fun y => decide (y.line.prev = c.a) := List.mem_filter.2 ⟨List.mem_map.2 ⟨_, hyb, rfl⟩, by simpa using (hd1 y hd).2⟩
                  exact h2.2.2 y hd y hyl rfl
                have hxd : ∀ d ∈ done, ¬ (x.loc.f = d.loc.f ∧ x.loc.s = d.loc.s) := by
                  intro d hd hq
                  have e := place_eq hu hh.apart hxm (hd1 d hd).1 hq
                  subst e
                  exact hxp (hd1 x hd).2
                have gy : hget (hset (upds gw K2 done) n 79 (.iter (some (h.mf, h.ms)) clk (seen ++ [b]) clk)) y.loc.f y.loc.s = _ := (hget_frame ult (by have := (Yg y hym).2; omega)).trans ((upds_other gw K2 done dlt hnd).trans ((flow _ _ (Yg y hym).2).trans (Yh y hym)))
                have gx : hget (hset (upds gw K2 done) n 79 (.iter (some (h.mf, h.ms)) clk (seen ++ [b]) clk)) x.loc.f x.loc.s = _ := (hget_frame ult (by have := X.lt; omega)).trans ((upds_other gw K2 done dlt hxd).trans fx)
                have g3 : hget (hset (upds gw K2 done) n 79 (.iter (some (h.mf, h.ms)) clk (seen ++ [b]) clk)) n 3 = _ := (hget_slot ult (by decide)).trans ((upds_other gw K2 done dlt (dn 3)).trans f3)
                have en := ev_entry (hget_same (o := .iter (some (h.mf, h.ms)) clk (seen ++ [b]) clk) ult) (m2 _) hb.uniq hyb
                have yl1 : y.loc.f < (hset (upds gw K2 done) n 79 (.iter (some (h.mf, h.ms)) clk (seen ++ [b]) clk)).length := by rw [hset_length, upds_len]; have := (Yg y hym).2; omega
                simp only [encX, st23_15]
                simp only [walk, walkL, evOp, quietOp, farOp, nov, gd, rho, putT, wr, Nat.reduceAdd, Nat.reduceSub, Bool.false_eq_true, if_true, if_false, reduceIte, reduceCtorEq, walkM, Int.reduceBEq, Int.reduceBNe, Int.reduceLT, Int.reduceLE, decide_true, decide_false, eq_self, Bool.not_true, Bool.not_false, ↓ev_fa, ↓ev_field, ↓ev_load, ↓ev_store, stO_cells, List.all_cons, List.all_nil, Bool.and_self, Bool.and_true, hset_hset, ↓en, ta23, callC, gy, g3, lc_0, lc_1, lc_2, Nat.zero_add]
                refine W.opsK (by kernel_rfl) ?_
                simp only [walk, walkL, evOp, quietOp, farOp, nov, gd, rho, putT, wr, Nat.reduceAdd, Nat.reduceSub, Bool.false_eq_true, if_true, if_false, reduceIte, reduceCtorEq, walkM, Int.reduceBEq, Int.reduceBNe, Int.reduceLT, Int.reduceLE, decide_true, decide_false, eq_self, Bool.not_true, Bool.not_false, ↓ev_fa, ↓ev_field, ↓ev_load, ↓ev_store, stO_cells, List.all_cons, List.all_nil, Bool.and_self, Bool.and_true]
                refine W.ite (fun q3 => ?_) (fun q3 => ?_)
                · have q3' : y.line.prev = c.a := by simpa using q3
                  simp only [walk, walkL, evOp, quietOp, farOp, nov, gd, rho, putT, wr, Nat.reduceAdd, Nat.reduceSub, Bool.false_eq_true, if_true, if_false, reduceIte, reduceCtorEq, walkM, Int.reduceBEq, Int.reduceBNe, Int.reduceLT, Int.reduceLE, decide_true, decide_false, eq_self, Bool.not_true, Bool.not_false, ↓ev_fa, ↓ev_field, ↓ev_load, ↓ev_store, stO_cells, List.all_cons, List.all_nil, Bool.and_self, Bool.and_true, ta23, zerosN, fillV, walkB, pureL, V.pure, Nat.reduceMul, Nat.reduceLeDiff, Nat.one_ne_zero, and_self, and_true, true_and, List.take_zero, List.drop_succ_cons, List.drop_zero, List.take_succ_cons, List.replicate_one, List.drop_nil, List.take_nil, Nat.le_refl, Nat.zero_add, Nat.zero_mul, Nat.one_mul, Nat.mul_one, gx, gy, lc_2, st_prev (a := y.loc) (sn := y.line.snap) (ow := y.line.owner) (pr := y.line.prev) (l := lo y) (f := y.loc.f) (s := y.loc.s) (n := x.line.prev)]
                  refine W.done ⟨(seen ++ [b], y :: done), ⟨rfl, ?_, ?_⟩, by simp only; omega⟩
                  · rw [hset_comm _ _ _ (fun e => by have := (Yg y hym).2; omega)]
                    simp only
                    rw [show upds gw K2 (y :: done) = hset (upds gw K2 done) y.loc.f y.loc.s (gw y) from rfl]
                    simp only [hgw]
                  · simp only
                    refine List.Perm.trans ?_ hperm
                    have h3 := ((hp2.map (·.1)).filter fun y => decide (y.line.prev = c.a))
                    rw [List.map_cons, List.filter_cons, if_pos (by simpa using q3')] at h3
                    refine List.Perm.trans ?_ (List.Perm.append_left done h3.symm)
                    exact (List.perm_middle).symm
                · have q3' : ¬ y.line.prev = c.a := by simpa using q3
                  simp only [walk, walkL, evOp, quietOp, farOp, nov, gd, rho, putT, wr, Nat.reduceAdd, Nat.reduceSub, Bool.false_eq_true, if_true, if_false, reduceIte, reduceCtorEq, walkM, Int.reduceBEq, Int.reduceBNe, Int.reduceLT, Int.reduceLE, decide_true, decide_false, eq_self, Bool.not_true, Bool.not_false, ↓ev_fa, ↓ev_field, ↓ev_load, ↓ev_store, stO_cells, List.all_cons, List.all_nil, Bool.and_self, Bool.and_true]
                  refine W.done ⟨(seen ++ [b], done), ⟨rfl, rfl, ?_⟩, by simp only; omega⟩
                  simp only
                  refine List.Perm.trans ?_ hperm
                  have h3 := ((hp2.map (·.1)).filter fun y => decide (y.line.prev = c.a))
                  rw [List.map_cons, List.filter_cons, if_neg (by simpa using q3')] at h3
                  exact List.Perm.append_left done h3.symm
          · simp only [st23_15, List.set_cons_succ, List.set_cons_zero]
            have hfl : ∀ d ∈ (xs.filter fun y => decide (y.line.prev = c.a)), d ∈ xs ∧ d.line.prev = c.a := fun d hd => by
              rw [List.mem_filter] at hd
              exact ⟨hd.1, by simpa using hd.2⟩
            have dlt : ∀ d ∈ (xs.filter fun y => decide (y.line.prev = c.a)), d.loc.f < K2.length := fun d hd => by have := (Yg d (hfl d hd).1).2; omega
            generalize hFL : (xs.filter fun y => decide (y.line.prev = c.a)) = FL at *
            have ult : n < (upds gw K2 FL).length := by rw [upds_len]; exact flt
            have dn : ∀ (s : Nat) (d : Ent), d ∈ FL → ¬ (n = d.loc.f ∧ s = d.loc.s) := fun s d hd e => by have := (Yg d (hfl d hd).1).2; omega
            have g3 : hget (hset (upds gw K2 FL) n 79 .dead) n 3 = _ := (hget_slot ult (by decide)).trans ((upds_other gw K2 FL dlt (dn 3)).trans f3)
            have g4 : hget (hset (upds gw K2 FL) n 79 .dead) n 4 = _ := (hget_slot ult (by decide)).trans ((upds_other gw K2 FL dlt (dn 4)).trans f4)
            have glow : ∀ f s, f < n → hget (hset (upds gw K2 FL) n 79 .dead) f s = hget (upds gw K2 FL) f s := fun f s h => hget_frame ult (by omega)
            have glt : n < (hset (upds gw K2 FL) n 79 .dead).length := by rw [hset_length]; exact ult
            have ulen : (hset (upds gw K2 FL) n 79 .dead).length = K2.length := by rw [hset_length, upds_len]
            generalize hset (upds gw K2 FL) n 79 .dead = K3 at *
            have gm : hget K3 h.mf h.ms = some (.map (encL xs) bs clk) := by
              rw [glow _ _ B.lt, upds_other gw K2 FL dlt (fun d hd => hh.d3 (hfl d hd).1)]; exact fm
            have gc : hget K3 h.f h.s = some (.cells [.int .i64 S.last, .map h.mf h.ms]) := by
              rw [glow _ _ A.lt, upds_other gw K2 FL dlt (fun d hd => hh.d1 (hfl d hd).1)]; exact fc
            obtain ⟨bs', hb', hdel⟩ := del_lines (mf := h.mf) (ms := h.ms) hb hx
            have ml : h.mf < K3.length := by have := B.lt; omega
            have mn : ¬ n = h.mf := by have := B.lt; omega
            simp only [walk, walkL, evOp, quietOp, farOp, nov, gd, rho, putT, wr, Nat.reduceAdd, Nat.reduceSub, Bool.false_eq_true, if_true, if_false, reduceIte, reduceCtorEq, walkM, Int.reduceBEq, Int.reduceBNe, Int.reduceLT, Int.reduceLE, decide_true, decide_false, eq_self, Bool.not_true, Bool.not_false, ↓ev_fa, ↓ev_field, ↓ev_load, ↓ev_store, stO_cells, List.all_cons, List.all_nil, Bool.and_self, Bool.and_true, ta23, new, hget_hset', hset_length, and_false, false_and, and_true, true_and, and_self, Nat.reduceEqDiff, Nat.reduceLT, Nat.lt_irrefl, Nat.not_lt_zero, zerosN, fillV, walkB, pureL, V.pure, Nat.reduceMul, Nat.reduceLeDiff, Nat.one_ne_zero, List.take_zero, List.drop_succ_cons, List.drop_zero, List.take_succ_cons, List.replicate_one, List.drop_nil, List.take_nil, Nat.le_refl, Nat.zero_add, Nat.zero_mul, Nat.one_mul, Nat.mul_one, gc, g3, callC, bi_delete, ↓hdel _ gm]
            refine W.opsK (by kernel_rfl) ?_
            simp only [walk, walkL, evOp, quietOp, farOp, nov, gd, rho, putT, wr, Nat.reduceAdd, Nat.reduceSub, Bool.false_eq_true, if_true, if_false, reduceIte, reduceCtorEq, walkM, Int.reduceBEq, Int.reduceBNe, Int.reduceLT, Int.reduceLE, decide_true, decide_false, eq_self, Bool.not_true, Bool.not_false, ↓ev_fa, ↓ev_field, ↓ev_load, ↓ev_store, stO_cells, List.all_cons, List.all_nil, Bool.and_self, Bool.and_true, ta23, new, hget_hset', hset_length, and_false, false_and, and_true, true_and, and_self, Nat.reduceEqDiff, Nat.reduceLT, Nat.lt_irrefl, Nat.not_lt_zero, splice, zerosN, fillV, walkB, pureL, V.pure, Nat.reduceMul, Nat.reduceLeDiff, Nat.one_ne_zero, List.take_zero, List.drop_succ_cons, List.drop_zero, List.take_succ_cons, List.replicate_one, List.drop_nil, List.take_nil, Nat.le_refl, Nat.zero_add, Nat.zero_mul, Nat.one_mul, Nat.mul_one, glt, g4, ml, mn]
            refine W.done (EndK.ret (res_cell rfl rfl (hget_same (by first | exact F.lt | assumption | (simp only [hset_length]; first | exact F.lt | assumption))) (by rw [rd36]; rfl)) ?_)
            rw [hw2]
            rw [if_neg (by simp only [hq]; simp)]
            have last : ∀ f s, f < n → ¬ (f = h.mf ∧ s = h.ms) → ∀ v o, hget (popF n v (hset (hset K3 h.mf h.ms (.map (encL (dropE xs c.a)) bs' clk)) n 4 o)) f s = hget (upds gw K2 FL) f s := fun f s h1 h2 v o => by
              rw [popF_get h1, hget_frame (by rw [hset_length]; exact glt) (by omega), hget_ne ml h2, glow f s h1]
            refine ⟨rep_fail 0, ⟨dropE (repE xs c.a x.line.prev) c.a, kl, ?_, hh.kOut⟩, ?_⟩
            rotate_left
            · refine ⟨Nat.le_trans (by omega) (popF_len (n := n) (by simp only [hset_length]; omega)), fun f s o g1 g2 => ?_⟩
              have hf := hget_lt g1
              have hn16 : ∀ y ∈ xs, (lo y).length = 16 := fun y hy => by
                obtain ⟨b, k, hk⟩ := hlo y hy
                rw [hk.obs.len]; exact (ok.ok (y.id, y.line) (by rw [hh.lines]; exact List.mem_map.2 ⟨y, hy, rfl⟩)).n16
              rw [last f s (by omega) (aside_ne g1 g2 hm rfl), upds_other gw K2 FL dlt (fun d hd => aside_ne g1 g2 (Yh d (hfl d hd).1) (as_line (hn16 d (hfl d hd).1))), flow f s (by omega)]
              exact g1
            have memx : ∀ y ∈ dropE (repE xs c.a x.line.prev) c.a, ∃ z ∈ xs, y.loc = z.loc ∧ y.line.key = z.line.key ∧ y = (if z.line.prev = c.a then { z with line := { z.line with prev := x.line.prev } } else z) := by
              intro y hy
              obtain ⟨z, hz, rfl⟩ := List.mem_map.1 ((dropE_sub _ _).mem hy)
              refine ⟨z, hz, ?_, ?_, rfl⟩ <;> split <;> rfl
            have hFm : ∀ z ∈ xs, z.line.prev = c.a → z ∈ FL := fun z hz hq => by rw [← hFL, List.mem_filter]; exact ⟨hz, by simpa using hq⟩
            refine ⟨?_, ⟨bs', clk, ?_, ?_⟩, ?_, fun y hy => ?_, fun y hy => ?_, fun i q hq => ?_, hh.klen, ?_, hh.kapart⟩
            · rw [last _ _ A.lt (map_cells_ne hh.cell hm), upds_other gw K2 FL dlt (fun d hd => hh.d1 (hfl d hd).1)]; exact fc
            · rw [popF_get B.lt, hget_frame (by rw [hset_length]; exact glt) B.ne, hget_same ml, dropE_rep_enc]
            · rw [dropE_rep_len]; exact hb'
            · rw [dropE_lines, repE_lines, ← hh.lines]
            · obtain ⟨z, hz, e1, e2, e3⟩ := memx y hy
              obtain ⟨bz, kz, hLz⟩ := hlo z hz
              have zf := (Yg z hz).2
              have znf : z.loc.nf < n := by have := hget_lt hLz.names; omega
              have znm : ∀ v o, hget (popF n v (hset (hset K3 h.mf h.ms (.map (encL (dropE xs c.a)) bs' clk)) n 4 o)) z.loc.nf z.loc.ns = some (.map (encN z.line.names) bz kz) := fun v o => (last _ _ znf (fun e => hh.d4 hz ⟨e.1.symm, e.2.symm⟩) v o).trans ((upds_other gw K2 FL dlt (fun d hd e => (hh.line d (hfl d hd).1).apartNC (hh.line z hz) ⟨e.1.symm, e.2.symm⟩)).trans ((flow _ _ znf).trans hLz.names))
              by_cases hq : z.line.prev = c.a
              · rw [if_pos hq] at e3
                subst e3
                refine ⟨lo z, bz, kz, hLz.obs, ?_, znm _ _, hLz.born⟩
                rw [last _ _ zf (fun e => hh.d3 hz ⟨e.1.symm, e.2.symm⟩), upds_at gw K2 FL dlt (hFm z hz hq) (fun e he q => place_eq hu hh.apart (hfl e he).1 hz ⟨q.1.symm, q.2.symm⟩), hgw]
              · rw [if_neg hq] at e3
                subst e3
                refine ⟨lo y, bz, kz, hLz.obs, ?_, znm _ _, hLz.born⟩
                rw [last _ _ zf (fun e => hh.d3 hz ⟨e.1.symm, e.2.symm⟩), upds_other gw K2 FL dlt (fun d hd e => hq (by rw [place_eq hu hh.apart hz (hfl d hd).1 e]; exact (hfl d hd).2)), flow _ _ zf]
                exact hLz.cells
            · obtain ⟨z, hz, e1, e2, e3⟩ := memx y hy
              rw [e1, e2]; exact hh.key z hz
            · obtain ⟨k, h1, h2⟩ := hh.keys i q hq
              refine ⟨k, h1, ?_⟩
              have qn : q.1 < n := by have := hget_lt h2; omega
              rw [last _ _ qn (map_cells_ne h2 hm), upds_other gw K2 FL dlt (fun d hd => (hh.d6 (hfl d hd).1 hq).1), flow _ _ qn]
              exact h2
            · refine List.Pairwise.sublist (dropE_sub _ _) ?_
              rw [repE, List.pairwise_map]
              refine hh.apart.imp fun {a b} h => ?_
              unfold Apart at h ⊢
              split <;> split <;> exact h
end Go.Proofs.Ytebbgmeomkjibaa
end
