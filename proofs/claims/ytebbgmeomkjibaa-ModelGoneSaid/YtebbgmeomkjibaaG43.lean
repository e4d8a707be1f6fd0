/- This file holds in one the texts O19, O20; each says at its head what it proves. -/
import Derived.Test.YtebbgmeomkjibaaG42
set_option linter.unusedSimpArgs false
set_option linter.unusedVariables false
section
/- model: set, snap, clone. -/
set_option maxRecDepth 100000
namespace Go.Proofs.Ytebbgmeomkjibaa
open Go.AM Go.Mod

attribute [local irreducible] U W lineC

theorem linesOf_app (xs ys : List Ent) : linesOf (xs ++ ys) = linesOf xs ++ linesOf ys := by simp [linesOf]
theorem encL_app (xs ys : List Ent) : encL (xs ++ ys) = encL xs ++ encL ys := by simp [encL]
theorem refsM_app {p : Nat → Nat → Bool} : ∀ (es : List (V × V)) (k : V) (f s o : Nat), p f s = true → refsM p (es ++ [(k, .ptr f s o)]) = true
  | [], k, f, s, o, h => by simp [refsM, V.refs, h]
  | e :: es, k, f, s, o, h => by
    obtain ⟨a, b⟩ := e
    simp only [List.cons_append, refsM, refsM_app es k f s o h, Bool.or_true]

theorem popF_keepM {n : Nat} {v : V} {K : Heap} {f s : Nat} {es : List (V × V)} {k : V} {f' s' o : Nat} {bs : List Nat} {clk : Nat} (hf : f < n) (h : hget K f s = some (.map (es ++ [(k, .ptr f' s' o)]) bs clk)) (hn : n ≤ f') : popF n v K = K :=
  popF_keep2 hf h (refsM_app es k f' s' o (by simpa using hn))
section
variable {H H' : Heap} {h : Hs} {S : MSt} {xs : List Ent} {kl : List (Nat × Nat)}
theorem HouseAt.grow (hh : HouseAt H h S xs kl) (hlow : ∀ f s, f < H.length → ¬ (f = h.f ∧ s = h.s) → ¬ (f = h.mf ∧ s = h.ms) → hget H' f s = hget H f s) (hc : hget H' h.f h.s = some (.cells [.int .i64 (S.last + 1), .map h.mf h.ms])) {x : Ent}
    (hm : ∃ bs clk, hget H' h.mf h.ms = some (.map (encL (xs ++ [x])) bs clk) ∧ Born (xs.length + 1) bs clk) (hl : LineIn H' x.loc x.line) (ha : H.length ≤ x.loc.f) (hn : H.length ≤ x.loc.nf) (kn : Option (MKey × Nat × Nat)) 
    (hkn : ∀ y, kn = some y → H.length ≤ y.2.1 ∧ hget H' y.2.1 y.2.2 = some (.cells [.str y.1.pass, .bool y.1.loaded])) (hk : (kl ++ (kn.map (·.2)).toList)[x.line.key]? = some (x.loc.kf, x.loc.ks)) :
    HouseAt H' h ⟨S.last + 1, S.keys ++ (kn.map (·.1)).toList, S.lines ++ [(x.id, x.line)]⟩ (xs ++ [x]) (kl ++ (kn.map (·.2)).toList) := by
  obtain ⟨bs, clk, h1, h2⟩ := hm
  obtain ⟨bs0, clk0, h3, h4⟩ := hh.lmap
  have kold : ∀ (i : Nat) (q : Nat × Nat), kl[i]? = some q → ∃ k, S.keys[i]? = some k ∧ hget H' q.1 q.2 = some (.cells [.str k.pass, .bool k.loaded]) := by
    intro i q hq
    obtain ⟨k, e1, e2⟩ := hh.keys i q hq
    refine ⟨k, e1, (hlow _ _ (hget_lt e2) ?_ (map_cells_ne e2 h3)).trans e2⟩
    rintro ⟨e3, e4⟩
    rw [e3, e4, hh.cell] at e2
    cases e2
  refine ⟨hc, ⟨bs, clk, h1, by simpa using h2⟩, by rw [linesOf_app, ← hh.lines]; rfl, fun y hy => ?_, fun y hy => ?_, fun i q hq => ?_, ?_, ?_, ?_⟩
  · rcases List.mem_append.1 hy with hy | hy
    · have ly := hh.line y hy
      exact ly.same (hlow _ _ ly.lt.1 (fun e => hh.d1 hy ⟨e.1.symm, e.2.symm⟩) (fun e => hh.d3 hy ⟨e.1.symm, e.2.symm⟩)) (hlow _ _ ly.lt.2 (fun e => hh.d2 hy ⟨e.1.symm, e.2.symm⟩) (fun e => hh.d4 hy ⟨e.1.symm, e.2.symm⟩))
    · rw [List.mem_singleton.1 hy]; exact hl
  · rcases List.mem_append.1 hy with hy | hy
    · have := hh.key y hy
      rw [List.getElem?_append_left (lt_of_get this)]; exact this
    · rw [List.mem_singleton.1 hy]; exact hk
  · by_cases hi : i < kl.length
    · rw [List.getElem?_append_left hi] at hq
      obtain ⟨k, e1, e2⟩ := kold i q hq
      exact ⟨k, by rw [List.getElem?_append_left (by rw [← hh.klen]; exact hi)]; exact e1, e2⟩
    · rw [List.getElem?_append_right (by omega)] at hq
      cases kn with
      | none => simp at hq
      | some y =>
        have hi0 : i - kl.length = 0 := by
          have := lt_of_get hq
          simp at this; omega
        rw [hi0] at hq
        simp at hq
        subst hq
        refine ⟨y.1, ?_, (hkn y rfl).2⟩
        rw [List.getElem?_append_right (by rw [← hh.klen]; omega), ← hh.klen, hi0]; rfl
  · cases kn <;> simp [hh.klen]
  · rw [List.pairwise_append]
    refine ⟨hh.apart, by simp, fun a ha2 b hb => ?_⟩
    rw [List.mem_singleton.1 hb]
    have la := hh.line a ha2
    exact ⟨fun e => by have := la.lt.1; omega, fun e => by have := la.lt.2; omega⟩
  · rw [List.nodup_append]
    refine ⟨hh.kapart, by cases kn <;> simp, fun a ha2 b hb => ?_⟩
    cases kn with
    | none => simp at hb
    | some y =>
      simp at hb
      subst hb
      obtain ⟨i, hi, e⟩ := List.getElem_of_mem ha2
      obtain ⟨k, _, e2⟩ := hh.keys i a (by rw [List.getElem?_eq_getElem hi, e])
      have := hget_lt e2
      have := (hkn y rfl).1
      rintro rfl; omega
theorem HouseAt.newKey (hh : HouseAt H h S xs kl) {n : Nat} (ok : StOk S n) : ∀ j, findKey (.int .i64 (S.last + 1)) (encL xs) j = some none := by
  intro j
  obtain ⟨k, hk⟩ := findKey_lines (S.last + 1) xs j
  rw [hk]
  have h1 := ok.fresh
  rw [hh.lines, lineOf_ent] at h1
  cases h2 : entOf xs (S.last + 1) with
  | none => rfl
  | some x => rw [h2] at h1; cases h1
end

unseal lineC in
theorem lc_new {n : Nat} {ow : Int} : ([.bool false, .int .i64 ow, .int .i64 0, .ptr n 14 0, .map n 15, .int .u8 0, .int .i64 0, .nilslice, .int .u8 0, .int .i64 0, .nilslice, .int .u8 0, .int .i64 0, .nilslice, .int .u8 0, .int .i64 0, .nilslice, .int .u8 0, .int .i64 0, .nilslice, .int .u8 0, .int .i64 0, .nilslice, .int .u8 0, .int .i64 0, .nilslice, .int .u8 0, .int .i64 0, .nilslice, .int .u8 0, .int .i64 0, .nilslice, .int .u8 0, .int .i64 0, .nilslice, .int .u8 0, .int .i64 0, .nilslice, .int .u8 0, .int .i64 0, .nilslice, .int .u8 0, .int .i64 0, .nilslice, .int .u8 0, .int .i64 0, .nilslice, .int .u8 0, .int .i64 0, .nilslice, .int .u8 0, .int .i64 0, .nilslice] : List V)
    = lineC ⟨n, 17, n, 15, n, 14⟩ false ow 0 (List.replicate 16 ⟨0, 0, .nilslice⟩) := rfl

theorem set_h : HSpec 18 hSet := by
  rintro H h S N c dv ⟨xs, kl, hh⟩ ok hN hc
  refine cr_of Try.func18 rfl ?_
  intro n K hn F
  have sdv := IsSl.scalar hc.data
  obtain ⟨bs, clk, hm, hb⟩ := hh.lmap
  have A := F.at_ hn hh.cell
  have B := F.at_ hn hm
  simp only [walk, walkL, evOp, quietOp, farOp, nov, gd, rho, putT, wr, Nat.reduceAdd, Nat.reduceSub, Bool.false_eq_true, if_true, if_false, reduceIte, reduceCtorEq, walkM, Int.reduceBEq, Int.reduceBNe, Int.reduceLT, Int.reduceLE, decide_true, decide_false, eq_self, Bool.not_true, Bool.not_false, ↓ev_fa, ↓ev_field, ↓ev_load, ↓ev_store, stO_cells, List.all_cons, List.all_nil, Bool.and_self, Bool.and_true, Try.ntmps18, ta18, new, hget_hset', hset_length, and_false, false_and, and_true, true_and, and_self, Nat.reduceEqDiff, Nat.reduceLT, Nat.lt_irrefl, Nat.not_lt_zero, splice, zerosN, fillV, walkB, pureL, V.pure, Nat.reduceMul, Nat.reduceLeDiff, Nat.one_ne_zero, List.take_zero, List.drop_succ_cons, List.drop_zero, List.take_succ_cons, List.replicate_one, List.drop_nil, List.take_nil, Nat.le_refl, Nat.zero_add, Nat.zero_mul, Nat.one_mul, Nat.mul_one, F.own, F.lt, sdv, A.get, A.ltK, B.get, B.ltK, lc_0, lc_1, lc_2, lc_3, lc_4, Nat.add_zero, callC, A.ne, B.ne]
  refine W.ite (fun h1 => ?_) (fun h1 => ?_)
  · have h1' : 64 < c.text.length := by have := of_decide_eq_true h1; omega
    simp only [walk, walkL, evOp, quietOp, farOp, nov, gd, rho, putT, wr, Nat.reduceAdd, Nat.reduceSub, Bool.false_eq_true, if_true, if_false, reduceIte, reduceCtorEq, walkM, Int.reduceBEq, Int.reduceBNe, Int.reduceLT, Int.reduceLE, decide_true, decide_false, eq_self, Bool.not_true, Bool.not_false, ↓ev_fa, ↓ev_field, ↓ev_load, ↓ev_store, stO_cells, List.all_cons, List.all_nil, Bool.and_self, Bool.and_true]
    refine W.pcall (fails_fz 3) rfl rfl rfl ?_
    rintro _ rfl
    simp only [walk, walkL, evOp, quietOp, farOp, nov, gd, rho, putT, wr, Nat.reduceAdd, Nat.reduceSub, Bool.false_eq_true, if_true, if_false, reduceIte, reduceCtorEq, walkM, Int.reduceBEq, Int.reduceBNe, Int.reduceLT, Int.reduceLE, decide_true, decide_false, eq_self, Bool.not_true, Bool.not_false, ↓ev_fa, ↓ev_field, ↓ev_load, ↓ev_store, stO_cells, List.all_cons, List.all_nil, Bool.and_self, Bool.and_true, failV, ta18, new, hget_hset', hset_length, and_false, false_and, and_true, true_and, and_self, Nat.reduceEqDiff, Nat.reduceLT, Nat.lt_irrefl, Nat.not_lt_zero, F.lt, splice, zerosN, fillV, walkB, pureL, V.pure, Nat.reduceMul, Nat.reduceLeDiff, Nat.one_ne_zero, List.take_zero, List.drop_succ_cons, List.drop_zero, List.take_succ_cons, List.replicate_one, List.drop_nil, List.take_nil, Nat.le_refl, Nat.zero_add, Nat.zero_mul, Nat.one_mul, Nat.mul_one]
    refine W.done (EndK.ret (res_cell rfl rfl (hget_same (by first | exact F.lt | assumption | (simp only [hset_length]; first | exact F.lt | assumption))) (by rw [rd36]; rfl)) ?_)
    rw [hSet, if_pos h1']
    exact ⟨rep_fail 3, ⟨xs, kl, hh.ch (F.ch hn (by first | rfl | simp only [hset_length]) (fun f' s' h => by first | rfl | simp only [hget_hset', hset_length, F.lt, Nat.ne_of_lt h, false_and, if_false, AM.lk, *, -hn])), hh.kOut⟩, .of_ch0 (F.ch hn (by first | rfl | simp only [hset_length]) (fun f' s' h => by first | rfl | simp only [hget_hset', hset_length, F.lt, Nat.ne_of_lt h, false_and, if_false, AM.lk, *, -hn]))⟩
  · have h1' : ¬ 64 < c.text.length := by have := of_decide_eq_false h1; omega
    simp only [walk, walkL, evOp, quietOp, farOp, nov, gd, rho, putT, wr, Nat.reduceAdd, Nat.reduceSub, Bool.false_eq_true, if_true, if_false, reduceIte, reduceCtorEq, walkM, Int.reduceBEq, Int.reduceBNe, Int.reduceLT, Int.reduceLE, decide_true, decide_false, eq_self, Bool.not_true, Bool.not_false, ↓ev_fa, ↓ev_field, ↓ev_load, ↓ev_store, stO_cells, List.all_cons, List.all_nil, Bool.and_self, Bool.and_true, ta18, new, hget_hset', hset_length, and_false, false_and, and_true, true_and, and_self, Nat.reduceEqDiff, Nat.reduceLT, Nat.lt_irrefl, Nat.not_lt_zero, splice, zerosN, fillV, walkB, pureL, V.pure, Nat.reduceMul, Nat.reduceLeDiff, Nat.one_ne_zero, List.take_zero, List.drop_succ_cons, List.drop_zero, List.take_succ_cons, List.replicate_one, List.drop_nil, List.take_nil, Nat.le_refl, Nat.zero_add, Nat.zero_mul, Nat.one_mul, Nat.mul_one, F.own, F.lt, Try.underlying62]
    have hl0 := ok.last0
    have hl1 := ok.last1
    refine W.call (put_cr _ h.f h.s h.mf h.ms S.last (encL xs) bs clk _ (by simp only [hget_hset', hset_length, F.lt, A.ne, false_and, if_false]; exact A.get) (by simp only [hget_hset', hset_length, F.lt, B.ne, false_and, if_false]; exact B.get) hl0 (by omega) (hh.newKey ok 0)) rfl rfl rfl rfl rfl ?_
    rintro _ J ⟨rfl, cj⟩
    have lj : n < J.length := cj.lt (by simp only [hset_length]; exact F.lt)
    have ow : ∀ x ∈ ([(h.mf, h.ms, O.map (encL xs ++ [(.int .i64 (S.last + 1), .ptr n 17 0)]) (bs ++ [clk]) (clk + 1)), (h.f, h.s, O.cells [.int .i64 (S.last + 1), .map h.mf h.ms])] : List (Nat × Nat × O)), x.1 < n := by
      intro x hx
      simp only [List.mem_cons, List.not_mem_nil, or_false] at hx
      rcases hx with rfl | rfl
      · exact B.lt
      · exact A.lt
    have oj := fun s => cj.own (s := s) (f := n) (by simp only [hset_length]; exact F.lt) ow
    have lowj : ∀ f s, f < n → ¬ (f = h.f ∧ s = h.s) → ¬ (f = h.mf ∧ s = h.ms) → hget J f s = hget H f s := fun f s h1 h2 h3 => by
      rw [cj.get f s (by simp only [hset_length]; have := F.lt; omega)]
      simp only [lk, h2, h3, if_false, hget_hset', hset_length, F.lt, Nat.ne_of_lt h1, false_and]; exact F.low f s h1
    have jm : hget J h.mf h.ms = some (.map (encL xs ++ [(.int .i64 (S.last + 1), .ptr n 17 0)]) (bs ++ [clk]) (clk + 1)) := by
      rw [cj.get _ _ (by simp only [hset_length]; exact B.ltK)]; simp only [lk, and_self, if_true]
    have jc : hget J h.f h.s = some (.cells [.int .i64 (S.last + 1), .map h.mf h.ms]) := by
      rw [cj.get _ _ (by simp only [hset_length]; exact A.ltK)]; simp only [lk, map_cells_ne hh.cell hm, and_self, if_true, if_false]
    clear cj
    simp only [walk, walkL, evOp, quietOp, farOp, nov, gd, rho, putT, wr, Nat.reduceAdd, Nat.reduceSub, Bool.false_eq_true, if_true, if_false, reduceIte, reduceCtorEq, walkM, Int.reduceBEq, Int.reduceBNe, Int.reduceLT, Int.reduceLE, decide_true, decide_false, eq_self, Bool.not_true, Bool.not_false, ↓ev_fa, ↓ev_field, ↓ev_load, ↓ev_store, stO_cells, List.all_cons, List.all_nil, Bool.and_self, Bool.and_true, ta18, new, hget_hset', hset_length, and_false, false_and, and_true, true_and, and_self, Nat.reduceEqDiff, Nat.reduceLT, Nat.lt_irrefl, Nat.not_lt_zero, splice, zerosN, fillV, walkB, pureL, V.pure, Nat.reduceMul, Nat.reduceLeDiff, Nat.one_ne_zero, List.take_zero, List.drop_succ_cons, List.drop_zero, List.take_succ_cons, List.replicate_one, List.drop_nil, List.take_nil, Nat.le_refl, Nat.zero_add, Nat.zero_mul, Nat.one_mul, Nat.mul_one, lj, oj, F.lt]
    refine W.done (EndK.ret (res_cell rfl rfl (hget_same (by first | exact F.lt | assumption | (simp only [hset_length]; first | exact F.lt | assumption))) (by rw [rd36]; rfl)) ?_)
    rw [popF_keepM (f := h.mf) (s := h.ms) B.lt (by simp only [hget_hset', hset_length, lj, B.ne, false_and, if_false]; exact jm) (Nat.le_refl n)]
    have hs : hSet S c = (⟨S.last + 1, S.keys ++ [⟨c.text, true⟩], S.lines ++ [(S.last + 1, newLine (S.last + 1) S.keys.length)]⟩, { fail 0 with id := S.last + 1 }) := by rw [hSet, if_neg h1']
    rw [hs]
    refine ⟨⟨.nilslice, .nilslice, .nilslice, rfl, IsBytes.nil, IsSl.nil, IsInts.nil⟩, ⟨xs ++ [⟨S.last + 1, newLine (S.last + 1) S.keys.length, ⟨n, 17, n, 15, n, 14⟩⟩], _, hh.grow (kn := some (⟨c.text, true⟩, n, 14)) (x := ⟨S.last + 1, newLine (S.last + 1) S.keys.length, ⟨n, 17, n, 15, n, 14⟩⟩) ?_ ?_ ?_ ?_ (by simp [hn]) (by simp [hn]) ?_ ?_, ?_⟩, ⟨by simp only [hset_length]; omega, fun f s o h1 h2 => ?_⟩⟩
    · intro f s h1 h2 h3
      have : ¬ f = n := by omega
      simp only [hget_hset', hset_length, lj, this, false_and, if_false]; exact lowj f s (by omega) h2 h3
    · simp only [hget_hset', hset_length, lj, A.ne, false_and, if_false]; exact jc
    · refine ⟨bs ++ [clk], clk + 1, ?_, hb.add⟩
      simp only [hget_hset', hset_length, lj, B.ne, false_and, if_false]
      rw [encL_app]; exact jm
    · refine ⟨List.replicate 16 ⟨0, 0, .nilslice⟩, [], 0, ?_, ?_, ?_, ?_⟩
      · refine ⟨rfl, fun i o p h1 h2 => ?_⟩
        have e1 : o = ⟨0, 0, .nilslice⟩ := List.eq_of_mem_replicate (List.mem_of_getElem? h1)
        have e2 : p = noObj := List.eq_of_mem_replicate (List.mem_of_getElem? h2)
        rw [e1, e2]; exact ⟨rfl, rfl, IsBytes.nil⟩
      · simp only [hget_hset', hset_length, lj, Nat.reduceEqDiff, and_false, and_self, if_false, if_true]
        rw [lc_new]; rfl
      · simp only [hget_hset', hset_length, lj, oj, F.lt, Nat.reduceEqDiff, and_false, and_self, if_false, if_true]; rfl
      · exact ⟨rfl, List.nodup_nil, by simp⟩
    · rintro y hy
      cases hy
      refine ⟨by show H.length ≤ n; omega, ?_⟩
      simp only [hget_hset', hset_length, lj, oj, F.lt, Nat.reduceEqDiff, and_false, and_self, if_false, if_true]
    · simp only [Option.map_some, Option.toList_some, newLine]
      rw [← hh.klen, List.getElem?_append_right (Nat.le_refl _)]
      simp
    · intro q hq
      rcases List.mem_append.1 hq with hq | hq
      · exact hh.kOut q hq
      · simp at hq
        subst hq
        exact .inr ⟨_, List.mem_append_right _ (List.mem_singleton.2 rfl), rfl, rfl⟩
    · have hf := hget_lt h1
      have : ¬ f = n := by omega
      simp only [hget_hset', hset_length, lj, this, false_and, if_false]
      rw [lowj f s (by omega) (aside_ne h1 h2 hh.cell rfl) (aside_ne h1 h2 hm rfl)]; exact h1
end Go.Proofs.Ytebbgmeomkjibaa
end
section
/- model: snap, clone. -/
set_option maxRecDepth 100000
namespace Go.Proofs.Ytebbgmeomkjibaa
open Go.AM Go.Mod

attribute [local irreducible] U W lineC

theorem entOf_app {xs : List Ent} {i : Int} {x y : Ent} (h : entOf xs i = some x) : entOf (xs ++ [y]) i = some x := by
  induction xs with
  | nil => cases h
  | cons z xs ih =>
    simp only [List.cons_append, entOf] at h ⊢
    split
    · rename_i e; rw [if_pos e] at h; exact h
    · rename_i e; rw [if_neg e] at h; exact ih h
theorem uniq_app {xs : List Ent} (hu : xs.Pairwise fun x y => x.id ≠ y.id) {y : Ent} (h : ∀ x ∈ xs, x.id ≠ y.id) : (xs ++ [y]).Pairwise fun x y => x.id ≠ y.id := by
  rw [List.pairwise_append]
  exact ⟨hu, by simp, fun a ha b hb => by rw [List.mem_singleton.1 hb]; exact h a ha⟩
theorem HouseAt.idLe {H : Heap} {h : Hs} {S : MSt} {xs : List Ent} {kl : List (Nat × Nat)} (hh : HouseAt H h S xs kl) {n : Nat} (ok : StOk S n) : ∀ x ∈ xs, x.id ≠ S.last + 1 := by
  intro x hx
  have := ok.id1 (x.id, x.line) (by rw [hh.lines]; exact List.mem_map.2 ⟨x, hx, rfl⟩)
  simp only at this
  omega
theorem low_hm {h : Hs} {n : Nat} {o o' : O} (h1 : h.f < n) (h2 : h.mf < n) : ∀ x ∈ ([(h.mf, h.ms, o), (h.f, h.s, o')] : List (Nat × Nat × O)), x.1 < n := by
  intro x hx
  simp only [List.mem_cons, List.not_mem_nil, or_false] at hx
  rcases hx with rfl | rfl <;> assumption

theorem snap_h : HSpec 19 hSnap := by
  rintro H h S N c dv ⟨xs, kl, hh⟩ ok hN hc
  refine cr_of Try.func19 rfl ?_
  intro n K hn F
  have sdv := IsSl.scalar hc.data
  obtain ⟨bs, clk, hm, hb⟩ := hh.lmap
  have A := F.at_ hn hh.cell
  have B := F.at_ hn hm
  have hl0 := ok.last0
  have hl1 := ok.last1
  have lkl := fun g hg => lookup_lines (g := g) (mf := h.mf) (ms := h.ms) (l := xs) (bs := bs) (clk := clk) hg c.a
  have bad : ∀ (K2 : Heap) (e : Int), hSnap S c = (S, fail e) → Ch H K2 [] → RepV (failV e) (hSnap S c).2 ∧ HouseOut H K2 h (hSnap S c).1 ∧ Aside H K2 := by
    intro K2 e he hch
    rw [he]; exact ⟨rep_fail e, ⟨xs, kl, hh.ch hch, hh.kOut⟩, .of_ch0 hch⟩
  have hw := hh.lines ▸ lineOf_ent xs c.a
  simp only [walk, walkL, evOp, quietOp, farOp, nov, gd, rho, putT, wr, Nat.reduceAdd, Nat.reduceSub, Bool.false_eq_true, if_true, if_false, reduceIte, reduceCtorEq, walkM, Int.reduceBEq, Int.reduceBNe, Int.reduceLT, Int.reduceLE, decide_true, decide_false, eq_self, Bool.not_true, Bool.not_false, ↓ev_fa, ↓ev_field, ↓ev_load, ↓ev_store, stO_cells, List.all_cons, List.all_nil, Bool.and_self, Bool.and_true, Try.ntmps19, ta19, new, hget_hset', hset_length, and_false, false_and, and_true, true_and, and_self, Nat.reduceEqDiff, Nat.reduceLT, Nat.lt_irrefl, Nat.not_lt_zero, splice, zerosN, fillV, walkB, pureL, V.pure, Nat.reduceMul, Nat.reduceLeDiff, Nat.one_ne_zero, List.take_zero, List.drop_succ_cons, List.drop_zero, List.take_succ_cons, List.replicate_one, List.drop_nil, List.take_nil, Nat.le_refl, Nat.zero_add, Nat.zero_mul, Nat.one_mul, Nat.mul_one, F.own, F.lt, sdv, A.get, A.ltK, B.get, B.ltK, lc_0, lc_1, lc_2, lc_3, lc_4, Nat.add_zero, callC, A.ne, B.ne, ↓lkl]
  refine W.opsK (by kernel_rfl) ?_
  cases hx : entOf xs c.a with
  | none =>
    rw [hx] at hw
    simp only [walk, walkL, evOp, quietOp, farOp, nov, gd, rho, putT, wr, Nat.reduceAdd, Nat.reduceSub, Bool.false_eq_true, if_true, if_false, reduceIte, reduceCtorEq, walkM, Int.reduceBEq, Int.reduceBNe, Int.reduceLT, Int.reduceLE, decide_true, decide_false, eq_self, Bool.not_true, Bool.not_false, ↓ev_fa, ↓ev_field, ↓ev_load, ↓ev_store, stO_cells, List.all_cons, List.all_nil, Bool.and_self, Bool.and_true, bn_pt0 Try.underlying57]
    refine W.pcall (fails_fz 6) rfl rfl rfl ?_
    rintro _ rfl
    simp only [walk, walkL, evOp, quietOp, farOp, nov, gd, rho, putT, wr, Nat.reduceAdd, Nat.reduceSub, Bool.false_eq_true, if_true, if_false, reduceIte, reduceCtorEq, walkM, Int.reduceBEq, Int.reduceBNe, Int.reduceLT, Int.reduceLE, decide_true, decide_false, eq_self, Bool.not_true, Bool.not_false, ↓ev_fa, ↓ev_field, ↓ev_load, ↓ev_store, stO_cells, List.all_cons, List.all_nil, Bool.and_self, Bool.and_true, failV, ta19, new, hget_hset', hset_length, and_false, false_and, and_true, true_and, and_self, Nat.reduceEqDiff, Nat.reduceLT, Nat.lt_irrefl, Nat.not_lt_zero, F.lt, splice, zerosN, fillV, walkB, pureL, V.pure, Nat.reduceMul, Nat.reduceLeDiff, Nat.one_ne_zero, List.take_zero, List.drop_succ_cons, List.drop_zero, List.take_succ_cons, List.replicate_one, List.drop_nil, List.take_nil, Nat.le_refl, Nat.zero_add, Nat.zero_mul, Nat.one_mul, Nat.mul_one]
    exact W.done (EndK.ret (res_cell rfl rfl (hget_same (by first | exact F.lt | assumption | (simp only [hset_length]; first | exact F.lt | assumption))) (by rw [rd36]; rfl)) (bad _ 6 (by rw [hSnap, hw]; rfl) (F.ch hn (by first | rfl | simp only [hset_length]) (fun f' s' h => by first | rfl | simp only [hget_hset', hset_length, F.lt, Nat.ne_of_lt h, false_and, if_false, AM.lk, *, -hn]))))
  | some x =>
    rw [hx] at hw
    have hxm := (entOf_mem hx).1
    obtain ⟨l, bs1, clk1, hL⟩ := hh.line x hxm
    have X := F.at_ hn hL.cells
    have Xn := F.at_ hn hL.names
    have hw2 : hSnap S c = if x.line.snap then (S, fail 202) else (⟨S.last + 1, S.keys, putL (S.lines ++ [(S.last + 1, { x.line with snap := true })]) c.a { x.line with prev := S.last + 1 }⟩, { fail 0 with id := S.last + 1 }) := by
      rw [hSnap, hw]; simp only [Option.map_some]
    simp only [walk, walkL, evOp, quietOp, farOp, nov, gd, rho, putT, wr, Nat.reduceAdd, Nat.reduceSub, Bool.false_eq_true, if_true, if_false, reduceIte, reduceCtorEq, walkM, Int.reduceBEq, Int.reduceBNe, Int.reduceLT, Int.reduceLE, decide_true, decide_false, eq_self, Bool.not_true, Bool.not_false, ↓ev_fa, ↓ev_field, ↓ev_load, ↓ev_store, stO_cells, List.all_cons, List.all_nil, Bool.and_self, Bool.and_true, bn_pt1 Try.underlying57, ta19, new, hget_hset', hset_length, and_false, false_and, and_true, true_and, and_self, Nat.reduceEqDiff, Nat.reduceLT, Nat.lt_irrefl, Nat.not_lt_zero, zerosN, fillV, walkB, pureL, V.pure, Nat.reduceMul, Nat.reduceLeDiff, Nat.one_ne_zero, List.take_zero, List.drop_succ_cons, List.drop_zero, List.take_succ_cons, List.replicate_one, List.drop_nil, List.take_nil, Nat.le_refl, Nat.zero_add, Nat.zero_mul, Nat.one_mul, Nat.mul_one, F.lt, X.get, X.ne, A.get, A.ltK, B.get, B.ltK, lc_0, lc_1, lc_2, lc_3, lc_4, Nat.add_zero, callC]
    refine W.ite (fun h1 => ?_) (fun h1 => ?_)
    · rw [h1] at hw2
      simp only [walk, walkL, evOp, quietOp, farOp, nov, gd, rho, putT, wr, Nat.reduceAdd, Nat.reduceSub, Bool.false_eq_true, if_true, if_false, reduceIte, reduceCtorEq, walkM, Int.reduceBEq, Int.reduceBNe, Int.reduceLT, Int.reduceLE, decide_true, decide_false, eq_self, Bool.not_true, Bool.not_false, ↓ev_fa, ↓ev_field, ↓ev_load, ↓ev_store, stO_cells, List.all_cons, List.all_nil, Bool.and_self, Bool.and_true]
      refine W.pcall (fails_fz 202) rfl rfl rfl ?_
      rintro _ rfl
      simp only [walk, walkL, evOp, quietOp, farOp, nov, gd, rho, putT, wr, Nat.reduceAdd, Nat.reduceSub, Bool.false_eq_true, if_true, if_false, reduceIte, reduceCtorEq, walkM, Int.reduceBEq, Int.reduceBNe, Int.reduceLT, Int.reduceLE, decide_true, decide_false, eq_self, Bool.not_true, Bool.not_false, ↓ev_fa, ↓ev_field, ↓ev_load, ↓ev_store, stO_cells, List.all_cons, List.all_nil, Bool.and_self, Bool.and_true, failV, ta19, new, hget_hset', hset_length, and_false, false_and, and_true, true_and, and_self, Nat.reduceEqDiff, Nat.reduceLT, Nat.lt_irrefl, Nat.not_lt_zero, F.lt, splice, zerosN, fillV, walkB, pureL, V.pure, Nat.reduceMul, Nat.reduceLeDiff, Nat.one_ne_zero, List.take_zero, List.drop_succ_cons, List.drop_zero, List.take_succ_cons, List.replicate_one, List.drop_nil, List.take_nil, Nat.le_refl, Nat.zero_add, Nat.zero_mul, Nat.one_mul, Nat.mul_one]
      exact W.done (EndK.ret (res_cell rfl rfl (hget_same (by first | exact F.lt | assumption | (simp only [hset_length]; first | exact F.lt | assumption))) (by rw [rd36]; rfl)) (bad _ 202 hw2 (F.ch hn (by first | rfl | simp only [hset_length]) (fun f' s' h => by first | rfl | simp only [hget_hset', hset_length, F.lt, Nat.ne_of_lt h, false_and, if_false, AM.lk, *, -hn]))))
    · rw [h1] at hw2
      simp only [Bool.false_eq_true, if_false] at hw2
      have okL : LineOk x.line := ok.ok (x.id, x.line) (by rw [hh.lines]; exact List.mem_map.2 ⟨x, hxm, rfl⟩)
      simp only [walk, walkL, evOp, quietOp, farOp, nov, gd, rho, putT, wr, Nat.reduceAdd, Nat.reduceSub, Bool.false_eq_true, if_true, if_false, reduceIte, reduceCtorEq, walkM, Int.reduceBEq, Int.reduceBNe, Int.reduceLT, Int.reduceLE, decide_true, decide_false, eq_self, Bool.not_true, Bool.not_false, ↓ev_fa, ↓ev_field, ↓ev_load, ↓ev_store, stO_cells, List.all_cons, List.all_nil, Bool.and_self, Bool.and_true]
      refine W.call (twin_cr _ x.loc x.line okL l bs1 clk1 (hL.low (by rw [← hn]; exact (fun f s h => by simp only [hget_hset', hset_length, F.lt, Nat.ne_of_lt h, false_and, if_false]; exact F.low f s h)))) rfl rfl rfl rfl rfl ?_
      rintro _ J ⟨rfl, lq, ⟨l2, bs2, clk2, hL2⟩, cj⟩
      generalize hq : List.length (hset _ _ _ _) = q at *
      have hq1 : q = n + 1 := by rw [← hq]; simp only [hset_length]; exact F.len
      have lj : n < J.length := by omega
      have lowj : ∀ f s, f < n → hget J f s = hget H f s := fun f s h => by
        rw [cj.get f s (by rw [hq]; omega)]
        simp only [hget_hset', hset_length, F.lt, Nat.ne_of_lt h, false_and, if_false, lk]; exact F.low f s h
      have oj := fun s => cj.own (s := s) (f := n) (by rw [hq]; omega) (by simp)
      clear cj
      have j2 := hL2.cells
      have j2n := hL2.names
      simp only at j2 j2n
      have q1 : q < J.length := by omega
      simp only [walk, walkL, evOp, quietOp, farOp, nov, gd, rho, putT, wr, Nat.reduceAdd, Nat.reduceSub, Bool.false_eq_true, if_true, if_false, reduceIte, reduceCtorEq, walkM, Int.reduceBEq, Int.reduceBNe, Int.reduceLT, Int.reduceLE, decide_true, decide_false, eq_self, Bool.not_true, Bool.not_false, ↓ev_fa, ↓ev_field, ↓ev_load, ↓ev_store, stO_cells, List.all_cons, List.all_nil, Bool.and_self, Bool.and_true, ta19, new, hget_hset', hset_length, and_false, false_and, and_true, true_and, and_self, Nat.reduceEqDiff, Nat.reduceLT, Nat.lt_irrefl, Nat.not_lt_zero, zerosN, fillV, walkB, pureL, V.pure, Nat.reduceMul, Nat.reduceLeDiff, Nat.one_ne_zero, List.take_zero, List.drop_succ_cons, List.drop_zero, List.take_succ_cons, List.replicate_one, List.drop_nil, List.take_nil, Nat.le_refl, Nat.zero_add, Nat.zero_mul, Nat.one_mul, Nat.mul_one, j2, q1, st_snap (a := ⟨q, 3, q + 1, 7, x.loc.kf, x.loc.ks⟩) (sn := x.line.snap) (ow := x.line.owner) (pr := x.line.prev) (l := l2) (f := q) (s := 3) (b := true)]
      have qm : ¬ h.mf = q := by have := B.lt; omega
      have qc : ¬ h.f = q := by have := A.lt; omega
      refine W.call (put_cr _ h.f h.s h.mf h.ms S.last (encL xs) bs clk _ (by simp only [hget_hset', q1, qc, false_and, if_false]; exact (lowj _ _ A.lt).trans hh.cell) (by simp only [hget_hset', q1, qm, false_and, if_false]; exact (lowj _ _ B.lt).trans hm) hl0 (by omega) (hh.newKey ok 0)) rfl rfl rfl rfl rfl ?_
      rintro _ J3 ⟨rfl, c3⟩
      have l3 : q < J3.length := c3.lt (by simp only [hset_length]; exact q1)
      have ln3 : n < J3.length := by omega
      have o3 : ∀ s, hget J3 n s = hget J n s := fun s => (c3.own (s := s) (f := n) (by simp only [hset_length]; exact lj) (low_hm A.lt B.lt)).trans (hget_frame q1 (by omega))
      have low3 : ∀ f s, f < n → ¬ (f = h.f ∧ s = h.s) → ¬ (f = h.mf ∧ s = h.ms) → hget J3 f s = hget H f s := fun f s h1 h2 h3 => by
        rw [c3.get f s (by simp only [hset_length]; omega)]
        simp only [lk, h2, h3, if_false]
        rw [hget_frame q1 (show ¬ f = q by omega)]; exact lowj f s h1
      have jm : hget J3 h.mf h.ms = some (.map (encL xs ++ [(.int .i64 (S.last + 1), .ptr q 3 0)]) (bs ++ [clk]) (clk + 1)) := by
        rw [c3.get _ _ (by simp only [hset_length]; have := B.lt; omega)]; simp only [lk, and_self, if_true]
      have jc : hget J3 h.f h.s = some (.cells [.int .i64 (S.last + 1), .map h.mf h.ms]) := by
        rw [c3.get _ _ (by simp only [hset_length]; have := A.lt; omega)]; simp only [lk, map_cells_ne hh.cell hm, and_self, if_true, if_false]
      have jx : hget J3 x.loc.f x.loc.s = _ := (low3 _ _ X.lt (fun e => hh.d1 hxm ⟨e.1.symm, e.2.symm⟩) (fun e => hh.d3 hxm ⟨e.1.symm, e.2.symm⟩)).trans hL.cells
      have jq : hget J3 q 3 = _ := (c3.own (f := q) (s := 3) (by simp only [hset_length]; exact q1) (low_hm (by have := A.lt; omega) (by have := B.lt; omega))).trans (hget_same q1)
      have jqn : hget J3 (q + 1) 7 = _ := (c3.own (f := q + 1) (s := 7) (by simp only [hset_length]; exact lq) (low_hm (by have := A.lt; omega) (by have := B.lt; omega))).trans ((hget_frame q1 (by omega)).trans j2n)
      have lx3 : x.loc.f < J3.length := by have := X.lt; omega
      have xn : ¬ n = x.loc.f := fun e => X.ne e.symm
      have h3 : HouseAt J3 h ⟨S.last + 1, S.keys ++ ((none : Option (MKey × Nat × Nat)).map (·.1)).toList, S.lines ++ [(S.last + 1, { x.line with snap := true })]⟩ (xs ++ [⟨S.last + 1, { x.line with snap := true }, ⟨q, 3, q + 1, 7, x.loc.kf, x.loc.ks⟩⟩]) (kl ++ ((none : Option (MKey × Nat × Nat)).map (·.2)).toList) := by
        refine hh.grow (kn := none) (x := ⟨S.last + 1, { x.line with snap := true }, ⟨q, 3, q + 1, 7, x.loc.kf, x.loc.ks⟩⟩) (fun f s h1 => low3 f s (by omega)) jc ⟨bs ++ [clk], clk + 1, by rw [encL_app]; exact jm, hb.add⟩ ⟨l2, bs2, clk2, hL2.obs, jq, jqn, hL2.born⟩ (by simp only; omega) (by simp only; omega) (by simp) ?_
        simp only [Option.map_none, Option.toList_none, List.append_nil]
        exact hh.key x hxm
      simp only [Option.map_none, Option.toList_none, List.append_nil] at h3
      have o34 : hget J3 n 4 = _ := (o3 4).trans ((oj 4).trans (hget_same (by simp only [hset_length]; exact F.lt)))
      have h16 : ∀ y ∈ xs ++ [(⟨S.last + 1, { x.line with snap := true }, ⟨q, 3, q + 1, 7, x.loc.kf, x.loc.ks⟩⟩ : Ent)], y.line.objs.length = 16 := by
        intro y hy
        rcases List.mem_append.1 hy with hy | hy
        · exact (ok.ok (y.id, y.line) (by rw [hh.lines]; exact List.mem_map.2 ⟨y, hy, rfl⟩)).n16
        · rw [List.mem_singleton.1 hy]; exact okL.n16
      clear c3
      simp only [walk, walkL, evOp, quietOp, farOp, nov, gd, rho, putT, wr, Nat.reduceAdd, Nat.reduceSub, Bool.false_eq_true, if_true, if_false, reduceIte, reduceCtorEq, walkM, Int.reduceBEq, Int.reduceBNe, Int.reduceLT, Int.reduceLE, decide_true, decide_false, eq_self, Bool.not_true, Bool.not_false, ↓ev_fa, ↓ev_field, ↓ev_load, ↓ev_store, stO_cells, List.all_cons, List.all_nil, Bool.and_self, Bool.and_true, ta19, new, hget_hset', hset_length, and_false, false_and, and_true, true_and, and_self, Nat.reduceEqDiff, Nat.reduceLT, Nat.lt_irrefl, Nat.not_lt_zero, splice, zerosN, fillV, walkB, pureL, V.pure, Nat.reduceMul, Nat.reduceLeDiff, Nat.one_ne_zero, List.take_zero, List.drop_succ_cons, List.drop_zero, List.take_succ_cons, List.replicate_one, List.drop_nil, List.take_nil, Nat.le_refl, Nat.zero_add, Nat.zero_mul, Nat.one_mul, Nat.mul_one, jx, lx3, xn, X.ne, st_prev (a := x.loc) (sn := x.line.snap) (ow := x.line.owner) (pr := x.line.prev) (l := l) (f := x.loc.f) (s := x.loc.s) (n := S.last + 1), lc_2, ln3, o3, oj, F.lt]
      refine W.done (EndK.ret (res_cell rfl rfl (hget_same (by first | exact F.lt | assumption | (simp only [hset_length]; first | exact F.lt | assumption))) (by rw [rd36]; rfl)) ?_)
      rw [popF_keepM (f := h.mf) (s := h.ms) B.lt (by
        simp only [hget_hset', hset_length, ln3, lx3, B.ne, hh.d3 hxm, false_and, if_false]; exact jm) (by omega)]
      rw [hw2]
      refine ⟨⟨.nilslice, .nilslice, .nilslice, rfl, IsBytes.nil, IsSl.nil, IsInts.nil⟩, ⟨_, _, (h3.aside (o := .cells [.int .i64 0, .int .i64 (S.last + 1), .nilslice, .nilslice, .int .i64 0, .int .u8 0, .int .i64 0, .int .i64 0, .str [], .nilslice]) o34 rfl h16).line_upd (uniq_app (hh.uniq ok) (hh.idLe ok)) (entOf_app hx) (L' := { x.line with prev := S.last + 1 }) ⟨l, bs1, clk1, hL.obs, ?_, ?_, hL.born⟩ ⟨by simp only [hset_length]; exact Nat.le_refl _, ?_⟩ rfl, hh.kOut⟩, ⟨by simp only [hset_length]; omega, fun f s o g1 g2 => ?_⟩⟩
      · simp only [hget_hset', hset_length, ln3, lx3, X.ne, and_self, if_true, false_and, if_false, h1]
      · simp only [hget_hset', hset_length, ln3, lx3, Xn.ne, hL.ne2, false_and, if_false]
        exact (low3 _ _ Xn.lt (fun e => hh.d2 hxm ⟨e.1.symm, e.2.symm⟩) (fun e => hh.d4 hxm ⟨e.1.symm, e.2.symm⟩)).trans hL.names
      · intro f s hf n1 n2
        simp only [hget_hset', hset_length, ln3, lx3, n1, if_false]
      · have hf := hget_lt g1
        have fn : ¬ f = n := by omega
        have fx := aside_ne g1 g2 hL.cells (as_line (by rw [hL.obs.len]; exact okL.n16))
        simp only [hget_hset', hset_length, ln3, lx3, fn, fx, false_and, if_false]
        rw [low3 f s (by omega) (aside_ne g1 g2 hh.cell rfl) (aside_ne g1 g2 hm rfl)]; exact g1
end Go.Proofs.Ytebbgmeomkjibaa
end
