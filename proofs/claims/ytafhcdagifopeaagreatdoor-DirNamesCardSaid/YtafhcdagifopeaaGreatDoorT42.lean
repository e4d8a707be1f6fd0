/- This file holds in one the texts D9, DT, DU; each says at its head what it proves. -/
import Derived.Test.YtafhcdagifopeaaGreatDoorT29
import Derived.Test.YtafhcdagifopeaaGreatDoorT31
import Derived.Test.YtafhcdagifopeaaGreatDoorT41
set_option linter.unusedSimpArgs false
set_option linter.unusedVariables false
section
/- dev: left, of all. -/
set_option maxRecDepth 100000
namespace Go.Proofs.YtafhcdagifopeaaGreatDoor
open Go.AM
attribute [local irreducible] U W

theorem clones_run (rv : List V) (fl : Bool) (hl : rv.length = 256) (hsc : rv.all V.scalar = true) :
    callW Tryz.prog polD (some 96) [.islice rv 256 fl] [] = some (.ret (.mslice 0 7 0 256 none 1), [[(5, .cells []), (7, .cells rv)]]) := by
  have key : CW Tryz.prog polD 96 [.islice rv 256 fl] [] fun r K' => r = .ret (.mslice 0 7 0 256 none 1) ∧ K' = [[(5, .cells []), (7, .cells rv)]] := by
    refine cw_of Tryz.func96 rfl ?_
    have nn := eq_islice (P := Tryz.prog) (t := 22) Tryz.underlying22 (x := .tmp 3) (y := .const (.slice none 0 0)) (cs := rv) (n := 256) (f := fl)
    have mt5 : polD.mt 96 5 = true := rfl
    have mt7 : polD.mt 96 7 = true := rfl
    have sc : ∀ g, sliceCells g 1 (.islice rv 256 fl) = some (rv, 256) := fun g => by simp [sliceCells, hl]
    have ap : appendV Tryz.prog (polD.mt 96) 0 (hget [[(5, O.cells [])]]) (some 7) 22 22 (.mslice 0 5 0 0 (some 0) 1) (.islice rv 256 fl) = some (.val (.mslice 0 7 0 256 none 1) (some (0, 7, .cells rv))) := by
      have g5 : hget [[(5, O.cells [])]] 0 5 = some (.cells []) := rfl
      have n7 : hget [[(5, O.cells [])]] 0 7 = none := rfl
      simp only [appendV, Tryz.underlying22, sz26, by27, zc26, appSrc, sc, appendTo, g5]
      simp [grown, mt7, new, n7, hsc, roomy]
    simp only [tok_int, walk, walkL, evOp, quietOp, farOp, nov, gd, rho, putT, wr, Nat.reduceAdd, Nat.reduceSub, Bool.false_eq_true, if_true, if_false, reduceIte, reduceCtorEq, Tryz.ntmps96, nn, mt5, bi_append, ap, Tryz.underlying22, sz26, zc26, new, hget, hset, fget, fset, List.modify_zero_cons, List.modify_succ_cons, List.modify_cons, Nat.reduceLT, Nat.reduceEqDiff, Nat.lt_irrefl, Nat.not_lt_zero, Nat.lt_add_one, splice, zerosN, fillV, walkB, pureL, V.pure, Nat.reduceMul, Nat.reduceLeDiff, Nat.one_ne_zero, and_self, and_true, true_and, List.take_zero, List.drop_succ_cons, List.drop_zero, List.take_succ_cons, List.replicate_one, Bool.and_self, Bool.and_true, List.drop_nil, List.take_nil, Nat.le_refl, Nat.zero_add, Nat.zero_mul, Nat.one_mul, Nat.mul_one]
    refine W.done (End.ret (v := .mslice 0 7 0 256 none 1) rfl ?_)
    have := popF_keep (b := 0) (H := [[(5, O.cells []), (7, .cells rv)]]) (v := .mslice 0 7 0 256 none 1) (by simp [V.refs])
    exact ⟨rfl, this⟩
  obtain ⟨r, K', h, rfl, rfl⟩ := key
  exact h

theorem clones_op (rv : List V) (fl : Bool) (hl : rv.length = 256) (hsc : rv.all V.scalar = true) (hp : pureL rv = true) (fn fr d : Nat) (H : Heap) (hn : hget H fr d = none) :
    callOp polD (callW Tryz.prog polD) fn fr (some d) 96 [.islice rv 256 fl] H = some (.ret (.mslice fr d 0 256 none 1), hset H fr d (.cells rv)) := by
  have hc := clones_run rv fl hl hsc
  have a1 : polD.prim 96 = none := rfl
  have a2 : polD.pure fn 96 = false := rfl
  have a3 : polD.lift fn 96 = true := rfl
  have fz : frzL (frz (fun _ _ => none) depth) [.islice rv 256 fl] = some [.islice rv 256 fl] := rfl
  have hg : hget [[(5, O.cells []), (7, .cells rv)]] 0 7 = some (.cells rv) := rfl
  simp only [callOp, a1, a2, a3, Bool.false_eq_true, if_false, if_true, fz, hc, liftV, hn, hg, hp, Option.map_some, wr]
def lfF (wv : V) (c : List V) (N : Nat) (seen : List Nat) : AM.Frame := [(2, .cells [.mslice 0 9 0 256 none 1, wv]), (4, .cells [.nilslice, .nilslice]), (9, .cells c), (16, .iter (some (1, 8)) N seen N)]
def lfF' (wv : V) (c : List V) (N : Nat) (seen : List Nat) (y : List V) : AM.Frame := [(2, .cells [.mslice 0 9 0 256 none 1, wv]), (4, .cells [.nilslice, .nilslice]), (6, .cells y), (9, .cells c), (16, .iter (some (1, 8)) N seen N)]

theorem lastN_mem2 (a : Nat → Int) (dv : Nat → V) : ∀ (i : Nat) (x : Int × V), x ∈ lastN a dv i → ∃ j, j < i ∧ x = (a j, dv j)
  | 0, x, h => by cases h
  | i + 1, x, h => by
    rcases updL_mem _ _ _ _ h with rfl | h
    · exact ⟨i, by omega, rfl⟩
    · obtain ⟨j, hj, e⟩ := lastN_mem2 a dv i x h
      exact ⟨j, by omega, e⟩
theorem updL_keys : ∀ (L : List (Int × V)) (k : Int) (v : V) (x : Int), x ∈ (updL L k v).map Prod.fst → x = k ∨ x ∈ L.map Prod.fst
  | [], k, v, x, h => .inl (by simpa [updL] using h)
  | (k', v') :: r, k, v, x, h => by
    simp only [updL] at h
    split at h
    · rename_i e; subst e; exact .inr h
    · simp only [List.map_cons, List.mem_cons] at h ⊢
      rcases h with h | h
      · exact .inr (.inl h)
      · rcases updL_keys r k v x h with h | h
        · exact .inl h
        · exact .inr (.inr h)
theorem updL_nodup : ∀ (L : List (Int × V)) (k : Int) (v : V), (L.map Prod.fst).Nodup → ((updL L k v).map Prod.fst).Nodup
  | [], k, v, _ => by simp [updL]
  | (k', v') :: r, k, v, h => by
    simp only [updL]
    split
    · rename_i e; subst e; exact h
    · rename_i e
      simp only [List.map_cons, List.nodup_cons] at h ⊢
      refine ⟨fun hm => ?_, updL_nodup r k v h.2⟩
      rcases updL_keys r k v k' hm with h1 | h1
      · exact e h1.symm
      · exact h.1 h1
theorem lastN_nodup (a : Nat → Int) (dv : Nat → V) : ∀ i, ((lastN a dv i).map Prod.fst).Nodup
  | 0 => by simp [lastN]
  | i + 1 => updL_nodup _ _ _ (lastN_nodup a dv i)
theorem nodup_keys {L : List (Int × V)} (h : (L.map Prod.fst).Nodup) (b c : Nat) (k : Int) (v w : V) (h1 : L[b]? = some (k, v)) (h2 : L[c]? = some (k, w)) : b = c := by
  obtain ⟨l1, e1⟩ := List.getElem?_eq_some_iff.1 h1
  obtain ⟨l2, e2⟩ := List.getElem?_eq_some_iff.1 h2
  have q1 : (L.map Prod.fst)[b]? = some k := by rw [List.getElem?_map, h1]; rfl
  have q2 : (L.map Prod.fst)[c]? = some k := by rw [List.getElem?_map, h2]; rfl
  exact (List.getElem?_inj (by simpa using l1) h).1 (q1.trans q2.symm)

theorem refsL_set (p : Nat → Nat → Bool) (v : V) (hv : v.refs p = false) : ∀ (l : List V) (i : Nat), refsL p l = false → refsL p (l.set i v) = false
  | [], i, _ => rfl
  | x :: l, 0, h => by simp only [refsL, Bool.or_eq_false_iff] at h; simp only [List.set_cons_zero, refsL, hv, h.2, Bool.or_self]
  | x :: l, i + 1, h => by simp only [refsL, Bool.or_eq_false_iff] at h; simp only [List.set_cons_succ, refsL, h.1, refsL_set p v hv l i h.2, Bool.or_self]
theorem applyS_refs (p : Nat → Nat → Bool) (L : List (Int × V)) (hL : ∀ (b : Nat) (k : Int) (v : V), L[b]? = some (k, v) → v.refs p = false) : ∀ (seen : List Nat) (rv : List V), refsL p rv = false → refsL p (applyS L seen rv) = false
  | [], rv, h => h
  | b :: seen, rv, h => by
    show refsL p (applyS L seen (apply1 L rv b)) = false
    refine applyS_refs p L hL seen _ ?_
    unfold apply1
    split
    · rename_i k v hk
      exact refsL_set p v (hL b k v hk) rv _ h
    · exact h
theorem refsL_rows {rv : List V} {r : Nat → List V} (hl : rv.length = 256) (hr : ∀ i, i < 256 → ∃ f, rv[i]? = some (.islice (r i) 256 f)) (p : Nat → Nat → Bool) : refsL p rv = false := by
  have : ∀ l : List V, (∀ x ∈ l, x.refs p = false) → refsL p l = false := by
    intro l
    induction l with
    | nil => intro _; rfl
    | cons x l ih => intro h; simp only [refsL, h x (by simp), ih (fun y hy => h y (by simp [hy])), Bool.or_self]
  refine this rv fun x hx => ?_
  obtain ⟨i, hi⟩ := List.mem_iff_getElem?.1 hx
  have : i < 256 := by rw [← hl]; exact (List.getElem?_eq_some_iff.1 hi).1
  obtain ⟨f, hf⟩ := hr i this
  rw [hi] at hf; cases hf; rfl

theorem left_fz (rv : List V) (fl : Bool) (r : Nat → List V) (hl : rv.length = 256) (hr : ∀ i, i < 256 → ∃ f, rv[i]? = some (.islice (r i) 256 f)) (hrow : ∀ i, i < 256 → Row256 (r i)) (wv : V) (cs : List V) (n : Nat) (hv : IsSl 2 wv cs n) (hn : n ≤ 4096) (a : Nat → Int) (dv : Nat → V)
    (hwait : ∀ j, j < n → cs[2 * j]? = some (.int .i64 (a j)) ∧ cs[2 * j + 1]? = some (dv j)) (ha : ∀ j, j < n → 0 ≤ a j ∧ a j < 256) (hdv : ∀ j, j < n → ∃ c fl, dv j = .islice c 256 fl ∧ Row256 c)
    (r' : Nat → List V) (hr' : ∀ i, i < 256 → ∃ f, (applyS (lastN a dv n) (List.range (lastN a dv n).length) rv)[i]? = some (.islice (r' i) 256 f)) (hrow' : ∀ i, i < 256 → Row256 (r' i)) :
    Fz Tryz.prog polD 177 [.agg [.islice rv 256 fl, wv], .func (.func 178) [] []] fun x => x = encD r' (fun _ => 0) (fun _ => []) 0 := by
  refine fz_of Tryz.func177 rfl ?_
  have wsc : wv.scalar = true := slScalar hv
  have hsc : rv.all V.scalar = true := by
    rw [List.all_eq_true]; intro x hx
    obtain ⟨i, hi⟩ := List.mem_iff_getElem?.1 hx
    have : i < 256 := by rw [← hl]; exact (List.getElem?_eq_some_iff.1 hi).1
    obtain ⟨f, hf⟩ := hr i this
    rw [hi] at hf; cases hf; rfl
  have hpu : pureL rv = true := by
    have : ∀ l : List V, (∀ x ∈ l, x.pure = true) → pureL l = true := by
      intro l
      induction l with
      | nil => intro _; rfl
      | cons x l ih => intro h; simp only [pureL, h x (by simp), ih (fun y hy => h y (by simp [hy])), Bool.and_self]
    refine this rv fun x hx => ?_
    obtain ⟨i, hi⟩ := List.mem_iff_getElem?.1 hx
    have : i < 256 := by rw [← hl]; exact (List.getElem?_eq_some_iff.1 hi).1
    obtain ⟨f, hf⟩ := hr i this
    rw [hi] at hf; cases hf; rfl
  have cl := clones_op rv fl hl hsc hpu 177 0 9 [[(2, .cells [.islice rv 256 fl, wv]), (4, .cells [.nilslice, .nilslice])]] rfl
  have wcl := hv.cells1
  have hK1 : WF [[(2, O.cells [.mslice 0 9 0 256 none 1, wv]), (4, .cells [.nilslice, .nilslice]), (9, .cells rv)]] := by
    have q : (fun f _ => Nat.ble 1 f) 0 9 = false := rfl
    have rr : refsL (fun f _ => Nat.ble 1 f) rv = false := refsL_rows hl hr _
    simp only [WF, clearH, clearF, orc, refsL, V.refs, hv.noRefs, rr, List.length_cons, List.length_nil]
    rfl
  obtain ⟨rr, KK, hlast, rfl, rfl⟩ := lasts_cw [[(2, .cells [.mslice 0 9 0 256 none 1, wv]), (4, .cells [.nilslice, .nilslice]), (9, .cells rv)]] hK1 (.mslice 0 9 0 256 none 1) wv rfl rfl cs n hv hn a dv hwait (fun j hj => by obtain ⟨c, f, e, _⟩ := hdv j hj; exact ⟨c, f, e⟩)
  have hlast' : callOp polD (callW Tryz.prog polD) 177 0 (some 15) 212 [.agg [.mslice 0 9 0 256 none 1, wv], .func (.func 178) [] []] [[(2, .cells [.mslice 0 9 0 256 none 1, wv]), (4, .cells [.nilslice, .nilslice]), (9, .cells rv)]] =
      some (.ret (.map 1 8), [[(2, .cells [.mslice 0 9 0 256 none 1, wv]), (4, .cells [.nilslice, .nilslice]), (9, .cells rv)], laF (.mslice 0 9 0 256 none 1) wv (lastN a dv n)]) := callOp_in rfl rfl rfl hlast
  generalize hL : lastN a dv n = L at hlast' hr' 
  have hLk : ∀ (b : Nat) (k : Int) (v : V), L[b]? = some (k, v) → (0 ≤ k ∧ k < 256) ∧ ∃ c fl, v = .islice c 256 fl ∧ Row256 c := by
    intro b k v h
    rw [← hL] at h
    obtain ⟨j, hj, e⟩ := lastN_mem2 a dv n (k, v) (List.mem_of_getElem? h)
    cases e
    exact ⟨ha j hj, hdv j hj⟩
  have hFr : ∀ p : Nat → Nat → Bool, p 0 9 = false → clearF p (laF (.mslice 0 9 0 256 none 1) wv L) = true := fun p hp => by
    have mr := mapO_refs p L (fun x hx => by
      obtain ⟨b, hb⟩ := List.mem_iff_getElem?.1 hx
      obtain ⟨_, c, f, e, _⟩ := hLk b x.1 x.2 hb
      rw [e]; rfl)
    simp only [laF, clearF, orc, refsL, V.refs, hv.noRefs, mr, hp]
    rfl
  generalize hFL : laF (.mslice 0 9 0 256 none 1) wv L = FL at hlast' hFr
  simp only [tok_int, walk, walkL, evOp, quietOp, farOp, nov, gd, rho, putT, wr, Nat.reduceAdd, Nat.reduceSub, Bool.false_eq_true, if_true, if_false, reduceIte, reduceCtorEq, walkM, Int.reduceBEq, Int.reduceBNe, Int.reduceLT, Int.reduceLE, decide_true, decide_false, eq_self, Bool.not_true, Bool.not_false, ↓ev_fa, ↓ev_field, ↓ev_load, ↓ev_store, stO_cells, List.all_cons, List.all_nil, Bool.and_self, Bool.and_true, Tryz.ntmps177, ta177, new, hget, hset, fget, fset, List.modify_zero_cons, List.modify_succ_cons, List.modify_cons, Nat.reduceLT, Nat.reduceEqDiff, Nat.lt_irrefl, Nat.not_lt_zero, Nat.lt_add_one, splice, zerosN, fillV, walkB, pureL, V.pure, Nat.reduceMul, Nat.reduceLeDiff, Nat.one_ne_zero, and_self, and_true, true_and, List.take_zero, List.drop_succ_cons, List.drop_zero, List.take_succ_cons, List.replicate_one, Bool.and_self, Bool.and_true, List.drop_nil, List.take_nil, Nat.le_refl, Nat.zero_add, Nat.zero_mul, Nat.one_mul, Nat.mul_one, wsc, wcl, cl, hlast']
  refine W.opsT (by kernel_rfl) ?_
  have g8 : ∀ F : AM.Frame, hget [F, FL] 1 8 = some (mapO L) := fun F => by rw [← hFL]; rfl
  have rg : rangeV Tryz.prog (hget [[(2, O.cells [.mslice 0 9 0 256 none 1, wv]), (4, .cells [.nilslice, .nilslice]), (9, .cells rv)], FL]) 0 (some 16) 271 (.map 1 8) = some (.val (.ptr 0 16 0) (some (0, 16, .iter (some (1, 8)) L.length [] L.length))) := by
    have n16 : hget [[(2, O.cells [.mslice 0 9 0 256 none 1, wv]), (4, .cells [.nilslice, .nilslice]), (9, .cells rv)], FL] 0 16 = none := rfl
    simp only [rangeV, Tryz.underlying271, g8, mapO, new, n16]
  have lr : ∀ b ∈ List.range L.length, b < L.length := fun b hb => List.mem_range.1 hb
  simp only [tok_int, walk, walkL, evOp, quietOp, farOp, nov, gd, rho, putT, wr, Nat.reduceAdd, Nat.reduceSub, Bool.false_eq_true, if_true, if_false, reduceIte, reduceCtorEq, walkM, Int.reduceBEq, Int.reduceBNe, Int.reduceLT, Int.reduceLE, decide_true, decide_false, eq_self, Bool.not_true, Bool.not_false, ↓ev_fa, ↓ev_field, ↓ev_load, ↓ev_store, stO_cells, List.all_cons, List.all_nil, Bool.and_self, Bool.and_true, Tryz.ntmps177, ta177, new, hget, hset, fget, fset, List.modify_zero_cons, List.modify_succ_cons, List.modify_cons, Nat.reduceLT, Nat.reduceEqDiff, Nat.lt_irrefl, Nat.not_lt_zero, Nat.lt_add_one, splice, zerosN, fillV, walkB, pureL, V.pure, Nat.reduceMul, Nat.reduceLeDiff, Nat.one_ne_zero, and_self, and_true, true_and, List.take_zero, List.drop_succ_cons, List.drop_zero, List.take_succ_cons, List.replicate_one, Bool.and_self, Bool.and_true, List.drop_nil, List.take_nil, Nat.le_refl, Nat.zero_add, Nat.zero_mul, Nat.one_mul, Nat.mul_one, wsc, wcl, cl, hlast', rg]
  refine W.ul ?_
  have hLd : ∀ (b c : Nat) (k : Int) (v w : V), L[b]? = some (k, v) → L[c]? = some (k, w) → b = c := by
    rw [← hL]; exact nodup_keys (lastN_nodup a dv n)
  refine W.range (d := some 17) (k := _) rfl rfl (.exit 0, ((st177_3 (.ptr 0 2 0) (.ptr 0 4 0) (.ptr 0 16 0)).set 17 (.tuple [.bool false])).set 18 (.bool false), [[(2, O.cells [.mslice 0 9 0 256 none 1, wv]), (4, .cells [.nilslice, .nilslice]), (9, .cells (applyS L (List.range L.length) rv)), (16, .dead)], FL])
    (fun (seen : List Nat) t H => maskT [2, 4, 16] t 0 = st177_3 (.ptr 0 2 0) (.ptr 0 4 0) (.ptr 0 16 0) ∧ ∃ F, H = [F, FL] ∧ (F = lfF wv (applyS L seen rv) L.length seen ∨ ∃ y, F = lfF' wv (applyS L seen rv) L.length seen y))
    (fun seen => (leftE seen (L.map ent) (List.range L.length)).length) ?_ [] ⟨rfl, _, rfl, .inl rfl⟩ ?_
  · rintro seen t H ⟨ht, F, rfl, hF⟩
    have hd : [F, FL].modify 0 (fdel fun s => [6].contains s) = [lfF wv (applyS L seen rv) L.length seen, FL] := by
      rcases hF with rfl | ⟨y, rfl⟩ <;> rfl
    obtain ⟨cs, hcs, hall⟩ := nextC_map (g := hget [lfF wv (applyS L seen rv) L.length seen, FL]) (f := 0) (s := 16) rfl (g8 _) lr (Nat.le_refl _)
    refine ⟨_, _, cs, forget_drop (kt := [2, 4, 16]) (ds := [6]) rfl ?_ ?_, ?_, fun d hd2 => ?_⟩
    · rw [ht]; simp [st177_3, refsL, V.refs]
    · rw [show ([F, FL].modify 0 (fdel fun s => [6].contains s)) = _ from hd]
      have yr : refsL (fun f s => f == 0 && [6].contains s) (applyS L seen rv) = false := by
        refine applyS_refs _ L (fun b k v h => ?_) seen rv (refsL_rows hl hr _)
        obtain ⟨_, c, f, e, _⟩ := hLk b k v h
        rw [e]; rfl
      simp only [lfF, clearH, hFr (fun f s => f == 0 && [6].contains s) rfl, clearF, orc, refsL, V.refs, hv.noRefs, yr]
      rfl
    · rw [ht]; rw [show ([F, FL].modify 0 (fdel fun s => [6].contains s)) = _ from hd]; exact hcs
    · rw [ht, hd]
      rcases hall d hd2 with ⟨hnil, rfl⟩ | ⟨⟨e, b⟩, he, rfl⟩
      · simp only [st177_3, lfF]
        have eA : applyS L seen rv = applyS L (List.range L.length) rv := by
          refine applyS_all L hLd (fun b k v h => (hLk b k v h).1.1) seen (fun b hb => ?_) rv (fun b k v h => by have := (hLk b k v h).1; omega)
          rw [List.range_eq_range'] at hnil
          have := leftE_nil seen (L.map ent) 0 (by rw [List.length_map]; exact hnil) b (by omega) (by rw [List.length_map]; omega)
          exact this
        rw [eA]
        simp only [tok_int, walk, walkL, evOp, quietOp, farOp, nov, gd, rho, putT, wr, Nat.reduceAdd, Nat.reduceSub, Bool.false_eq_true, if_true, if_false, reduceIte, reduceCtorEq, walkM, Int.reduceBEq, Int.reduceBNe, Int.reduceLT, Int.reduceLE, decide_true, decide_false, eq_self, Bool.not_true, Bool.not_false, ↓ev_fa, ↓ev_field, ↓ev_load, ↓ev_store, stO_cells, List.all_cons, List.all_nil, Bool.and_self, Bool.and_true, new, hget, hset, fget, fset, List.modify_zero_cons, List.modify_succ_cons, List.modify_cons, Nat.reduceLT, Nat.reduceEqDiff, Nat.lt_irrefl, Nat.not_lt_zero, Nat.lt_add_one, splice, zerosN, fillV, walkB, pureL, V.pure, Nat.reduceMul, Nat.reduceLeDiff, Nat.one_ne_zero, and_self, and_true, true_and, List.take_zero, List.drop_succ_cons, List.drop_zero, List.take_succ_cons, List.replicate_one, Bool.and_self, Bool.and_true, List.drop_nil, List.take_nil, Nat.le_refl, Nat.zero_add, Nat.zero_mul, Nat.one_mul, Nat.mul_one]
        exact W.done rfl
      · simp only [st177_3, lfF]
        have he2 := he
        rw [List.range_eq_range'] at he2
        obtain ⟨_, hb1, hb2⟩ := leftE_mem seen (L.map ent) 0 (e, b) (by rw [List.length_map]; exact he2)
        simp only [Nat.sub_zero, List.getElem?_map] at hb1
        obtain ⟨⟨k, v⟩, hb3, rfl⟩ := Option.map_eq_some_iff.1 hb1
        obtain ⟨⟨k0, k1⟩, c, cf, rfl, hc⟩ := hLk b k v hb3
        have less := leftE_less seen ((ent (k, .islice c 256 cf)), b) _ _ he
        simp only [ent]
        have hA : (applyS L seen rv).length = 256 := by rw [applyS_length]; exact hl
        have eS := applyS_snoc L seen b rv k _ hb3
        have eB : entryAt b (L.map ent) (List.range L.length) = some (.int .i64 k, .agg [.int .i64 k, .islice c 256 cf]) := by
          have := entryAt_at b (L.map ent) 0 (by omega)
          rw [List.length_map, ← List.range_eq_range', Nat.sub_zero, List.getElem?_map, hb3] at this
          exact this
        have gl : (seen ++ [b]).getLast? = some b := by simp
        generalize applyS L seen rv = y at hA eS ⊢
        have en : entryV (hget [[(2, O.cells [.mslice 0 9 0 256 none 1, wv]), (4, .cells [.nilslice, .nilslice]), (9, .cells y), (16, .iter (some (1, 8)) L.length (seen ++ [b]) L.length)], FL]) (.ptr 0 16 0) = some (.tuple [.int .i64 k, .agg [.int .i64 k, .islice c 256 cf]]) := by
          have n16 : hget [[(2, O.cells [.mslice 0 9 0 256 none 1, wv]), (4, .cells [.nilslice, .nilslice]), (9, .cells y), (16, .iter (some (1, 8)) L.length (seen ++ [b]) L.length)], FL] 0 16 = some (.iter (some (1, 8)) L.length (seen ++ [b]) L.length) := rfl
          simp only [entryV, n16, g8, mapO, gl, eB, if_true, Option.map_some]
        generalize eS2 : seen ++ [b] = seen2 at *
        have at1 := at_m (P := Tryz.prog) (f := 0) (s := 9) (o := 0) (cap := none) (k := .i64) Tryz.underlying22 sz26 (len := 256) k0 (i := k) (by omega)
        have kl : k.toNat + 1 ≤ y.length := by omega
        have es : y.take k.toNat ++ [.islice c 256 cf] ++ y.drop (k.toNat + 1) = applyS L seen2 rv := by
          rw [eS, List.set_eq_take_append_cons_drop, if_pos (by omega), List.append_assoc]; rfl
        simp only [tok_int, walk, walkL, evOp, quietOp, farOp, nov, gd, rho, putT, wr, Nat.reduceAdd, Nat.reduceSub, Bool.false_eq_true, if_true, if_false, reduceIte, reduceCtorEq, walkM, Int.reduceBEq, Int.reduceBNe, Int.reduceLT, Int.reduceLE, decide_true, decide_false, eq_self, Bool.not_true, Bool.not_false, ↓ev_fa, ↓ev_field, ↓ev_load, ↓ev_store, stO_cells, List.all_cons, List.all_nil, Bool.and_self, Bool.and_true, Tryz.ntmps177, ta177, new, hget, hset, fget, fset, List.modify_zero_cons, List.modify_succ_cons, List.modify_cons, Nat.reduceLT, Nat.reduceEqDiff, Nat.lt_irrefl, Nat.not_lt_zero, Nat.lt_add_one, splice, zerosN, fillV, walkB, pureL, V.pure, Nat.reduceMul, Nat.reduceLeDiff, Nat.one_ne_zero, and_self, and_true, true_and, List.take_zero, List.drop_succ_cons, List.drop_zero, List.take_succ_cons, List.replicate_one, Bool.and_self, Bool.and_true, List.drop_nil, List.take_nil, Nat.le_refl, Nat.zero_add, Nat.zero_mul, Nat.one_mul, Nat.mul_one, en, at1, if_pos kl, es]
        exact W.done ⟨seen2, ⟨rfl, _, rfl, .inr ⟨_, rfl⟩⟩, less⟩
  · have yr : ∀ p : Nat → Nat → Bool, refsL p (applyS L (List.range L.length) rv) = false := fun p => by
      refine applyS_refs _ L (fun b k v h => ?_) _ rv (refsL_rows hl hr _)
      obtain ⟨_, c, f, e, _⟩ := hLk b k v h
      rw [e]; rfl
    have yl : (applyS L (List.range L.length) rv).length = 256 := by rw [applyS_length]; exact hl
    generalize applyS L (List.range L.length) rv = y at hr' yr yl ⊢
    have hK2 : WF [[(2, O.cells [.mslice 0 9 0 256 none 1, .nilslice]), (4, .cells [.nilslice, .nilslice]), (9, .cells y), (16, .dead)], FL] := by
      have q := hFr (fun f _ => Nat.ble (0 + 1 + 1) f) rfl
      simp only [WF, clearH, q, clearF, orc, refsL, V.refs, yr, List.length_cons, List.length_nil]
      rfl
    have hb : InBlocks [[(2, O.cells [.mslice 0 9 0 256 none 1, .nilslice]), (4, .cells [.nilslice, .nilslice]), (9, .cells y), (16, .dead)], FL] (.mslice 0 9 0 256 none 1) r' := by
      refine ⟨fun g => ?_, ⟨fun i => .ptr 0 9 i, fun i => y.getD i .bad, fun i hi => ?_, fun i hi G => ?_, fun i hi => ?_⟩, hrow', rfl, rfl, rfl⟩
      · simp only [lenV, Tryz.underlying22]
        rfl
      · have := at_m (P := Tryz.prog) (f := 0) (s := 9) (o := 0) (cap := none) (k := .i64) Tryz.underlying22 sz26 (len := 256) (i := (i : Int)) (by omega) (by omega)
        rw [this]
        have e : 0 + (i : Int).toNat * 1 = i := by omega
        rw [e]
      · obtain ⟨f, hf⟩ := hr' i hi
        show readAt Tryz.prog 26 y i = _
        rw [rd26, hf]
        simp [List.getD, hf]
      · obtain ⟨f, hf⟩ := hr' i hi
        exact ⟨f, by simp [List.getD, hf]⟩
    obtain ⟨rr, KK, tw, rfl, rfl⟩ := twin_cw _ hK2 (.mslice 0 9 0 256 none 1) .nilslice r' hb [] 0 IsSl.nil (by omega) (fun _ => 0) (fun _ => []) (fun j hj => by omega) (fun j hj => by omega)
    have tw' := callOp_in (fn := 177) (fr := 0) (d := some 30) rfl rfl rfl tw
    simp only [st177_3, List.set_cons_succ, List.set_cons_zero]
    have zl : (zerosN [V.int .u8 0] 65536).length = 65536 := zeros_length _ _
    simp only [wOut, if_true] at tw'
    generalize zerosN [V.int .u8 0] 65536 = Z at tw' zl
    have fz := fun HH hg => twin_frz 2 HH r' Z (fun _ => 0) (fun _ => []) 0 hrow' zl hg
    simp only [List.length_cons, List.length_nil, Nat.reduceAdd, wOut, if_true] at tw' fz
    generalize hF3 : ([(20, .cells (dataM r' Z 256)), (33, .grow 256)] : AM.Frame) = F3 at tw'
    generalize twF3 _ _ _ _ 0 = F2 at tw'
    simp only [List.cons_append, List.nil_append] at tw'
    have fz2 := fun F0 => fz [F0, FL, F2, F3] (by rw [← hF3]; rfl)
    clear fz hF3
    generalize rowsM 3 256 = R0 at tw' fz2
    simp only [tok_int, walk, walkL, evOp, quietOp, farOp, nov, gd, rho, putT, wr, Nat.reduceAdd, Nat.reduceSub, Bool.false_eq_true, if_true, if_false, reduceIte, reduceCtorEq, walkM, Int.reduceBEq, Int.reduceBNe, Int.reduceLT, Int.reduceLE, decide_true, decide_false, eq_self, Bool.not_true, Bool.not_false, ↓ev_fa, ↓ev_field, ↓ev_load, ↓ev_store, stO_cells, List.all_cons, List.all_nil, Bool.and_self, Bool.and_true, Tryz.ntmps177, ta177, new, hget, hset, fget, fset, List.modify_zero_cons, List.modify_succ_cons, List.modify_cons, Nat.reduceLT, Nat.reduceEqDiff, Nat.lt_irrefl, Nat.not_lt_zero, Nat.lt_add_one, splice, zerosN, fillV, walkB, pureL, V.pure, Nat.reduceMul, Nat.reduceLeDiff, Nat.one_ne_zero, and_self, and_true, true_and, List.take_zero, List.drop_succ_cons, List.drop_zero, List.take_succ_cons, List.replicate_one, Bool.and_self, Bool.and_true, List.drop_nil, List.take_nil, Nat.le_refl, Nat.zero_add, Nat.zero_mul, Nat.one_mul, Nat.mul_one, tw']
    refine W.done ?_
    exact EndZ.ret (v := .agg [.gslice 3 33 R0 256 1, .nilslice]) rfl (fz2 _) rfl
end Go.Proofs.YtafhcdagifopeaaGreatDoor
end
section
/- dev: what is reckoned by plain functions is what its functions answer. -/
set_option maxRecDepth 100000
namespace Go.Proofs.YtafhcdagifopeaaGreatDoor
open Go.AM Go.AM.BM
attribute [local irreducible] U W

theorem rowOk_row {v : V} (h : rowOk v = true) : ∃ c f, v = .islice c 256 f ∧ Row256 c := by
  cases v with
  | islice c n f =>
    simp only [rowOk, Bool.and_eq_true] at h
    obtain ⟨h1, h2, h3⟩ := h
    cases Nat.eq_of_beq_eq_true h1
    replace h2 := Nat.eq_of_beq_eq_true h2
    refine ⟨c, f, rfl, h2, ?_⟩
    rw [← h3]; congr 1
  | _ => cases h
theorem blocksC_ok {bv : V} {rv : List V} (h : blocksC bv = some rv) : ∃ fl, bv = .islice rv 256 fl ∧ rv.length = 256 ∧ (∀ i, i < 256 → ∃ f, rv[i]? = some (.islice (rowC (rv.getD i .bad)) 256 f)) ∧ ∀ i, i < 256 → Row256 (rowC (rv.getD i .bad)) := by
  cases bv with
  | islice xs n f =>
    simp only [blocksC] at h
    split at h
    case isFalse => cases h
    rename_i hc
    cases h
    simp only [Bool.and_eq_true, List.all_eq_true] at hc
    obtain ⟨⟨h1, h2⟩, h3⟩ := hc
    cases Nat.eq_of_beq_eq_true h1
    replace h2 := Nat.eq_of_beq_eq_true h2
    have key : ∀ i, i < 256 → ∃ c g, rv[i]? = some (.islice c 256 g) ∧ rv.getD i .bad = .islice c 256 g ∧ Row256 c := fun i hi => by
      have hl : i < rv.length := by omega
      obtain ⟨c, g, e, hr⟩ := rowOk_row (h3 rv[i] (List.getElem_mem hl))
      have e1 : rv[i]? = some (.islice c 256 g) := by rw [List.getElem?_eq_getElem hl, e]
      exact ⟨c, g, e1, by simp [List.getD, e1], hr⟩
    refine ⟨f, rfl, h2, fun i hi => ?_, fun i hi => ?_⟩
    · obtain ⟨c, g, e1, e2, _⟩ := key i hi
      exact ⟨g, by rw [e1, e2]; rfl⟩
    · obtain ⟨c, g, _, e2, hr⟩ := key i hi
      rw [e2]; exact hr
  | _ => cases h
theorem waitsOk_at : ∀ (cs : List V) (j : Nat), waitsOk cs = true → 2 * j + 1 < cs.length → ∃ a c f, cs[2 * j]? = some (.int .i64 a) ∧ 0 ≤ a ∧ a < 256 ∧ cs[2 * j + 1]? = some (.islice c 256 f) ∧ Row256 c
  | [], j, _, h => by simp at h
  | [x], j, _, h => by simp at h
  | x :: v :: r, j, h, hl => by
    unfold waitsOk at h
    split at h
    · rename_i e; cases e
    · rename_i a v' r' e
      cases e
      simp only [Bool.and_eq_true, decide_eq_true_eq] at h
      obtain ⟨⟨⟨h1, h2⟩, h3⟩, h4⟩ := h
      cases j with
      | zero =>
        obtain ⟨c, f, rfl, hc⟩ := rowOk_row h3
        exact ⟨a, c, f, rfl, h1, h2, rfl, hc⟩
      | succ j =>
        obtain ⟨b, c, f, q1, q2, q3, q4, q5⟩ := waitsOk_at r j h4 (by simp only [List.length_cons] at hl; omega)
        exact ⟨b, c, f, by rw [show 2 * (j + 1) = 2 * j + 1 + 1 by omega]; simpa using q1, q2, q3, by rw [show 2 * (j + 1) + 1 = 2 * j + 1 + 1 + 1 by omega]; simpa using q4, q5⟩
    · cases h
def waA (cs : List V) (j : Nat) : Int := match cs.getD (2 * j) .bad with
  | .int _ a => a
  | _ => 0
def waD (cs : List V) (j : Nat) : List V := rowC (cs.getD (2 * j + 1) .bad)
theorem waitsC_ok {wv : V} {cs : List V} {n : Nat} (h : waitsC wv = some (cs, n)) : IsSl 2 wv cs n ∧ n ≤ 4096 ∧ (∀ j, j < n → cs[2 * j]? = some (.int .i64 (waA cs j)) ∧ ∃ fl, cs[2 * j + 1]? = some (.islice (waD cs j) 256 fl)) ∧ (∀ j, j < n → 0 ≤ waA cs j ∧ waA cs j < 256) ∧ ∀ j, j < n → Row256 (waD cs j) := by
  have key : ∀ cs n, waitsOk cs = true → cs.length = n * 2 → (∀ j, j < n → cs[2 * j]? = some (.int .i64 (waA cs j)) ∧ ∃ fl, cs[2 * j + 1]? = some (.islice (waD cs j) 256 fl)) ∧ (∀ j, j < n → 0 ≤ waA cs j ∧ waA cs j < 256) ∧ ∀ j, j < n → Row256 (waD cs j) := fun cs n h hl => by
    have q : ∀ j, j < n → ∃ f, cs[2 * j]? = some (.int .i64 (waA cs j)) ∧ cs[2 * j + 1]? = some (.islice (waD cs j) 256 f) ∧ (0 ≤ waA cs j ∧ waA cs j < 256) ∧ Row256 (waD cs j) := fun j hj => by
      obtain ⟨a, c, f, q1, q2, q3, q4, q5⟩ := waitsOk_at cs j h (by omega)
      have e1 : waA cs j = a := by simp [waA, List.getD, q1]
      have e2 : waD cs j = c := by simp [waD, List.getD, q4, rowC]
      rw [e1, e2]
      exact ⟨f, q1, q4, ⟨q2, q3⟩, q5⟩
    exact ⟨fun j hj => by obtain ⟨f, q1, q2, _⟩ := q j hj; exact ⟨q1, f, q2⟩, fun j hj => by obtain ⟨f, _, _, q, _⟩ := q j hj; exact q, fun j hj => by obtain ⟨f, _, _, _, q⟩ := q j hj; exact q⟩
  cases wv with
  | nilslice =>
    cases h
    exact ⟨IsSl.nil, by omega, fun j hj => by omega, fun j hj => by omega, fun j hj => by omega⟩
  | islice xs m f =>
    simp only [waitsC] at h
    split at h
    case isFalse => cases h
    rename_i hc
    cases h
    simp only [Bool.and_eq_true] at hc
    obtain ⟨⟨h1, h2⟩, h3⟩ := hc
    replace h1 := Nat.eq_of_beq_eq_true h1
    replace h2 := Nat.le_of_ble_eq_true h2
    exact ⟨IsSl.mk h1, h2, key _ _ h3 h1⟩
  | _ => cases h
theorem newWaits_snoc (x v : V) : ∀ (l : List V) (i : Nat), l.length = 2 * i → newWaits (l ++ [x, v]) = newWaits l ++ [x, BM.newRow false v]
  | [], _, _ => rfl
  | [y], i, h => by simp at h; omega
  | y :: z :: l, i, h => by
    show y :: BM.newRow false z :: newWaits (l ++ [x, v]) = _
    rw [newWaits_snoc x v l (i - 1) (by simp only [List.length_cons] at h; omega)]; rfl
theorem newWaits_cells (cs : List V) (n : Nat) (hl : cs.length = n * 2) (h : ∀ j, j < n → cs[2 * j]? = some (.int .i64 (waA cs j)) ∧ ∃ fl, cs[2 * j + 1]? = some (.islice (waD cs j) 256 fl)) : ∀ i, i ≤ n → wcells (waA cs) (waD cs) i = newWaits (cs.take (2 * i))
  | 0, _ => rfl
  | i + 1, hi => by
    obtain ⟨q1, f, q2⟩ := h i (by omega)
    obtain ⟨l1, g1⟩ := List.getElem?_eq_some_iff.1 q1
    obtain ⟨l2, g2⟩ := List.getElem?_eq_some_iff.1 q2
    have e : cs.take (2 * (i + 1)) = cs.take (2 * i) ++ [.int .i64 (waA cs i), .islice (waD cs i) 256 f] := by
      rw [show 2 * (i + 1) = 2 * i + 1 + 1 by omega, List.take_succ_eq_append_getElem l2, List.take_succ_eq_append_getElem l1, g1, g2, List.append_assoc]; rfl
    rw [e, newWaits_snoc _ _ _ i (by rw [List.length_take]; omega), ← newWaits_cells cs n hl h i (by omega), wcells_succ]; rfl
theorem mkDisk_enc (rv cs : List V) (n : Nat) (hr : rv.length = 256) (hl : cs.length = n * 2) (h : ∀ j, j < n → cs[2 * j]? = some (.int .i64 (waA cs j)) ∧ ∃ fl, cs[2 * j + 1]? = some (.islice (waD cs j) 256 fl)) :
    encD (fun i => rowC (rv.getD i .bad)) (waA cs) (waD cs) n = mkDisk rv cs n := by
  have e1 : ((List.range 256).map fun j => V.islice (rowC (rv.getD j .bad)) 256 true) = rv.map (BM.newRow true) := by
    apply List.ext_getElem?
    intro i
    by_cases hi : i < 256
    · rw [List.getElem?_map, List.getElem?_map, List.getElem?_range hi, List.getElem?_eq_getElem (by omega)]
      simp [BM.newRow, List.getD, List.getElem?_eq_getElem (show i < rv.length by omega)]
    · rw [List.getElem?_eq_none (by simp; omega), List.getElem?_eq_none (by simp; omega)]
  have e2 := newWaits_cells cs n hl h n (Nat.le_refl n)
  rw [List.take_of_length_le (by omega)] at e2
  simp only [encD, mkDisk, e1, e2]
theorem kTwin_fz (ys : List V) (v : V) (h : kTwin ys = some v) : Fz Tryz.prog polD 141 ys (· = v) := by
  unfold kTwin at h
  split at h
  case h_2 => cases h
  rename_i bv wv
  split at h
  case h_2 => cases h
  rename_i rv cs n hb hw
  cases h
  obtain ⟨fl, rfl, h1, h2, h3⟩ := blocksC_ok hb
  obtain ⟨w1, w2, w3, w4, w5⟩ := waitsC_ok hw
  have := twin_fz rv fl _ h1 h2 h3 wv cs n w1 w2 (waA cs) (waD cs) w3 w5
  rw [mkDisk_enc rv cs n h1 w1.1 w3] at this
  exact this
theorem kNew_fz (ys : List V) (v : V) (h : kNew ys = some v) : Fz Tryz.prog polD 117 ys (· = v) := by
  unfold kNew at h
  split at h
  case h_2 => cases h
  cases h
  exact new_fz
end Go.Proofs.YtafhcdagifopeaaGreatDoor
end
section
/- dev: Check and left, by plain functions. -/
set_option maxRecDepth 100000
namespace Go.Proofs.YtafhcdagifopeaaGreatDoor
open Go.AM Go.AM.BM
attribute [local irreducible] U W

theorem check_nil : CW Tryz.prog polD 126 [.agg [.nilslice, .nilslice]] [] fun x _ => x = .ret (.int .i64 8) := by
  refine cw_of Tryz.func126 rfl ?_
  have l1 : ∀ g, lenV Tryz.prog g 22 .nilslice = some (.int .i64 0) := fun g => IsSl.nil (esz := 1) |>.len Tryz.underlying22 g
  have l2 : ∀ g, lenV Tryz.prog g 23 .nilslice = some (.int .i64 0) := fun g => IsSl.nil (esz := 2) |>.len Tryz.underlying23 g
  simp only [tok_int, walk, walkL, evOp, quietOp, farOp, nov, gd, rho, putT, wr, Nat.reduceAdd, Nat.reduceSub, Bool.false_eq_true, if_true, if_false, reduceIte, reduceCtorEq, walkM, Int.reduceBEq, Int.reduceBNe, Int.reduceLT, Int.reduceLE, decide_true, decide_false, eq_self, Bool.not_true, Bool.not_false, ↓ev_fa, ↓ev_field, ↓ev_load, ↓ev_store, stO_cells, List.all_cons, List.all_nil, Bool.and_self, Bool.and_true, Tryz.ntmps126, ta126, new, hget, hset, fget, fset, List.modify_zero_cons, List.modify_succ_cons, List.modify_cons, Nat.reduceLT, Nat.reduceEqDiff, Nat.lt_irrefl, Nat.not_lt_zero, Nat.lt_add_one, splice, zerosN, fillV, walkB, pureL, V.pure, Nat.reduceMul, Nat.reduceLeDiff, Nat.one_ne_zero, and_self, and_true, true_and, List.take_zero, List.drop_succ_cons, List.drop_zero, List.take_succ_cons, List.replicate_one, Bool.and_self, Bool.and_true, List.drop_nil, List.take_nil, Nat.le_refl, Nat.zero_add, Nat.zero_mul, Nat.one_mul, Nat.mul_one, l1, l2]
  refine W.ul ?_
  refine W.loopS (kt := [1, 3, 19, 20, 21]) rfl (fun _ : Nat => st126_3 (.ptr 0 1 0) (.bool false) .nilslice (.int .i64 0) (.int .i64 0)) (fun _ => [[(1, .cells [.nilslice, .nilslice])]]) (fun _ => True) (fun i => i) ?_ 0 trivial rfl rfl
  rintro i hi
  simp only [st126_3]
  simp only [tok_int, walk, walkL, evOp, quietOp, farOp, nov, gd, rho, putT, wr, Nat.reduceAdd, Nat.reduceSub, Bool.false_eq_true, if_true, if_false, reduceIte, reduceCtorEq, walkM, Int.reduceBEq, Int.reduceBNe, Int.reduceLT, Int.reduceLE, decide_true, decide_false, eq_self, Bool.not_true, Bool.not_false, ↓ev_fa, ↓ev_field, ↓ev_load, ↓ev_store, stO_cells, List.all_cons, List.all_nil, Bool.and_self, Bool.and_true]
  refine W.done ?_
  simp only [tok_int, walk, walkL, evOp, quietOp, farOp, nov, gd, rho, putT, wr, Nat.reduceAdd, Nat.reduceSub, Bool.false_eq_true, if_true, if_false, reduceIte, reduceCtorEq, walkM, Int.reduceBEq, Int.reduceBNe, Int.reduceLT, Int.reduceLE, decide_true, decide_false, eq_self, Bool.not_true, Bool.not_false, ↓ev_fa, ↓ev_field, ↓ev_load, ↓ev_store, stO_cells, List.all_cons, List.all_nil, Bool.and_self, Bool.and_true, ta126, new, hget, hset, fget, fset, List.modify_zero_cons, List.modify_succ_cons, List.modify_cons, Nat.reduceLT, Nat.reduceEqDiff, Nat.lt_irrefl, Nat.not_lt_zero, Nat.lt_add_one, splice, zerosN, fillV, walkB, pureL, V.pure, Nat.reduceMul, Nat.reduceLeDiff, Nat.one_ne_zero, and_self, and_true, true_and, List.take_zero, List.drop_succ_cons, List.drop_zero, List.take_succ_cons, List.replicate_one, Bool.and_self, Bool.and_true, List.drop_nil, List.take_nil, Nat.le_refl, Nat.zero_add, Nat.zero_mul, Nat.one_mul, Nat.mul_one, l1, l2]
  refine W.ul ?_
  refine W.loop (fun (_ : Nat) t H => maskT [3, 33, 34, 35] t 0 = st126_8 (.bool false) .nilslice (.int .i64 0) (.int .i64 0) ∧ H = [[(1, .cells [.nilslice, .nilslice])]]) (fun i => i) ?_ 0 ⟨rfl, rfl⟩ rfl
  rintro i t H ⟨ht, rfl⟩
  have hd : ([[(1, .cells [.nilslice, .nilslice])]] : Heap).modify 0 (fdel fun s => [7].contains s) = [[(1, .cells [.nilslice, .nilslice])]] := rfl
  refine ⟨_, _, forget_drop (kt := [3, 33, 34, 35]) (ds := [7]) rfl ?_ ?_, ?_⟩
  · rw [ht]; rfl
  · rw [hd]; rfl
  rw [ht, hd]
  simp only [st126_8]
  simp only [tok_int, walk, walkL, evOp, quietOp, farOp, nov, gd, rho, putT, wr, Nat.reduceAdd, Nat.reduceSub, Bool.false_eq_true, if_true, if_false, reduceIte, reduceCtorEq, walkM, Int.reduceBEq, Int.reduceBNe, Int.reduceLT, Int.reduceLE, decide_true, decide_false, eq_self, Bool.not_true, Bool.not_false, ↓ev_fa, ↓ev_field, ↓ev_load, ↓ev_store, stO_cells, List.all_cons, List.all_nil, Bool.and_self, Bool.and_true]
  refine W.done ?_
  simp only [tok_int, walk, walkL, evOp, quietOp, farOp, nov, gd, rho, putT, wr, Nat.reduceAdd, Nat.reduceSub, Bool.false_eq_true, if_true, if_false, reduceIte, reduceCtorEq, walkM, Int.reduceBEq, Int.reduceBNe, Int.reduceLT, Int.reduceLE, decide_true, decide_false, eq_self, Bool.not_true, Bool.not_false, ↓ev_fa, ↓ev_field, ↓ev_load, ↓ev_store, stO_cells, List.all_cons, List.all_nil, Bool.and_self, Bool.and_true]
  exact W.done (End.ret (v := .int .i64 8) rfl rfl)
theorem kCheck_fz (ys : List V) (v : V) (h : kCheck ys = some v) : FzN Tryz.prog polD 126 ys v := by
  unfold kCheck at h
  split at h
  case h_3 => cases h
  · cases h
    obtain ⟨r, H, e, rfl⟩ := check_nil
    exact ⟨_, _, e, rfl⟩
  · rename_i bv wv _
    split at h
    case h_2 => cases h
    rename_i rv cs hb hw
    obtain ⟨cs, n⟩ := cs
    cases h
    obtain ⟨fl, rfl, h1, h2, h3⟩ := blocksC_ok hb
    obtain ⟨w1, w2, w3, w4, w5⟩ := waitsC_ok hw
    obtain ⟨r, H, e, rfl⟩ := check_cw rv fl _ h1 h2 wv cs n w1 w2 (waA cs) (waD cs) w3 w4
    exact ⟨_, _, e, rfl⟩
end Go.Proofs.YtafhcdagifopeaaGreatDoor
end
