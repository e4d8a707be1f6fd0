/- This file holds in one the texts O25; each says at its head what it proves. -/
import Derived.Test.YtebbgmeomkjibaaG46
set_option linter.unusedSimpArgs false
set_option linter.unusedVariables false
section
/- model: do. -/
set_option maxRecDepth 100000
namespace Go.Proofs.Ytebbgmeomkjibaa
open Go.AM Go.Mod

attribute [local irreducible] U W lineC

theorem refsM_mem {p : Nat → Nat → Bool} {es : List (V × V)} (h : refsM p es = false) : ∀ e ∈ es, e.1.refs p = false ∧ e.2.refs p = false := by
  induction es with
  | nil => intro e he; cases he
  | cons y ys ih =>
    obtain ⟨a, b⟩ := y
    simp only [refsM, Bool.or_eq_false_iff] at h
    intro e he
    rcases List.mem_cons.1 he with rfl | he
    · exact h.1
    · exact ih h.2 e he
unseal lineC in
theorem lc_refsK {p : Nat → Nat → Bool} {a : Loc} {sn : Bool} {ow pr : Int} {l : List Ob} (h : p a.kf a.ks = true) : (O.cells (lineC a sn ow pr l)).refs p = true := by
  simp only [O.refs, lineC, refsL, V.refs, h, Bool.true_or, Bool.or_true]

theorem HouseAt.pop {K : Heap} {h : Hs} {S : MSt} {xs : List Ent} {kl : List (Nat × Nat)} (hh : HouseAt K h S xs kl) {n : Nat} {v : V} (h1 : h.f < n) (h2 : h.mf < n) (hk : ∀ q ∈ kl, q.1 < n ∨ ∃ x ∈ xs, x.loc.kf = q.1 ∧ x.loc.ks = q.2) : HouseAt (popF n v K) h S xs kl := by
  unfold popF
  split
  · rename_i hc
    simp only [Bool.and_eq_true] at hc
    have hcl := hc.2
    obtain ⟨bs, clk, hm, hb⟩ := hh.lmap
    have cl : ∀ {f s : Nat} {o : O}, f < n → hget K f s = some o → o.refs (fun f _ => Nat.ble n f) = false := fun {f s o} hf hg => clearH_get (K.take n) f s o hcl (by rw [hget_tk hf]; exact hg)
    have hx : ∀ x ∈ xs, x.loc.f < n := fun x hx => by
      have := (refsM_mem (cl h2 hm) (encX x) (List.mem_map.2 ⟨x, hx, rfl⟩)).2
      simp only [encX, V.refs] at this
      exact Nat.lt_of_not_le fun q => by rw [Nat.ble_eq_true_of_le q] at this; cases this
    have hx2 : ∀ x ∈ xs, x.loc.nf < n ∧ x.loc.kf < n := fun x hxm => by
      obtain ⟨l, b, k, hL⟩ := hh.line x hxm
      have hr := cl (hx x hxm) hL.cells
      constructor
      · by_cases q : n ≤ x.loc.nf
        · rw [lc_refs (by simpa using q)] at hr; cases hr
        · omega
      · by_cases q : n ≤ x.loc.kf
        · rw [lc_refsK (by simpa using q)] at hr; cases hr
        · omega
    refine ⟨(hget_tk h1).trans hh.cell, ⟨bs, clk, (hget_tk h2).trans hm, hb⟩, hh.lines, fun x hxm => (hh.line x hxm).same (hget_tk (hx x hxm)) (hget_tk (hx2 x hxm).1), hh.key, fun i q hq => ?_, hh.klen, hh.apart, hh.kapart⟩
    obtain ⟨k, e1, e2⟩ := hh.keys i q hq
    refine ⟨k, e1, (hget_tk ?_).trans e2⟩
    rcases hk q (List.mem_of_getElem? hq) with h3 | ⟨x, hxm, e3, _⟩
    · exact h3
    · rw [← e3]; exact (hx2 x hxm).2
  · exact hh

def LiftS (P : Program) (pol : Pol) (f : FuncId) (es' : List (V × V)) : Prop := ∃ f' s H' es bs clk, callW P pol f [] [] = some (.ret (.map f' s), H') ∧ hget H' f' s = some (.map es bs clk) ∧ frzM (frz (hget H') depth) es = some es'
theorem W.liftT {P : Program} {pol : Pol} {L : MBody → Body} {fn fr : Nat} {t : List V} {H : Heap} {d : Nat} {k : List It} {Q : Ex → List V → Heap → Prop} {f : FuncId} {es' : List (V × V)} (h : LiftS P pol f es') (hp : pol.prim f = none) (hq : pol.pure fn f = false) (hl : pol.lift fn f = true) (hd : hget H fr d = none)
    (h2 : ∀ bs clk, W (U P pol (callW P pol) L fn fr k .normal (putT t (some d) (.map fr d)) (hset H fr d (.map es' bs clk))) Q) : W (UCT P pol (callW P pol) L fn fr (callOp pol (callW P pol) fn fr (some d) f [] H) (some d) k t) Q := by
  obtain ⟨f', s, H', es, bs, clk, h3, h4, h5⟩ := h
  have e : callOp pol (callW P pol) fn fr (some d) f [] H = some (.ret (.map fr d), hset H fr d (.map es' bs clk)) := by
    simp only [callOp, hp, hq, hl, Bool.false_eq_true, if_false, if_true, frzL, h3, liftV, hd, h4, h5, Option.map_some]; rfl
  rw [e]
  exact h2 bs clk

def encF (l : List (Int × FuncId)) : List (V × V) := l.map fun p => (.int .u8 p.1, .func (.func p.2) [] [])
def funOf : List (Int × FuncId) → Int → Option FuncId
  | [], _ => none
  | p :: l, k => if k = p.1 then some p.2 else funOf l k
theorem findKey_fun (k : Int) : ∀ (l : List (Int × FuncId)) (j : Nat), ∃ i, findKey (.int .u8 k) (encF l) j = some ((funOf l k).map fun f => (i, .func (.func f) [] []))
  | [], j => ⟨0, rfl⟩
  | p :: l, j => by
    simp only [encF, List.map_cons, findKey, keyEq, funOf, if_true]
    by_cases h : k = p.1
    · subst h; exact ⟨j, by simp⟩
    · have : (k == p.1) = false := by simpa using h
      obtain ⟨i, hi⟩ := findKey_fun k l (j + 1)
      exact ⟨i, by simp only [this, h, if_false]; exact hi⟩
theorem funOf_mem {l : List (Int × FuncId)} {k : Int} {f : FuncId} (h : funOf l k = some f) : (k, f) ∈ l := by
  induction l with
  | nil => cases h
  | cons p l ih =>
    simp only [funOf] at h
    split at h
    · rename_i e; subst e; cases h; simp
    · exact List.mem_cons_of_mem _ (ih h)
def houseFs : List (Int × FuncId) := [(1, 18), (2, 19), (3, 20), (4, 21), (5, 22), (6, 23), (7, 24), (8, 25), (19, 26), (20, 27), (21, 28)]
def lineFs : List (Int × FuncId) := [(9, 29), (10, 30), (11, 31), (12, 32), (13, 33), (14, 34), (15, 35), (16, 36), (17, 37), (18, 38)]
theorem onHouse_run : callN Try.prog pol 20 14 [] [] = some (.ret (.map 0 1), [[(1, .map (encF houseFs) [0, 1, 2, 3, 4, 5, 6, 7, 8, 9, 10] 11)]]) := by kernel_rfl
theorem onLine_run : callN Try.prog pol 20 15 [] [] = some (.ret (.map 0 1), [[(1, .map (encF lineFs) [0, 1, 2, 3, 4, 5, 6, 7, 8, 9] 10)]]) := by kernel_rfl
theorem onHouse_l : LiftS Try.prog pol 14 (encF houseFs) := ⟨0, 1, _, _, _, _, callN_W 20 _ _ _ _ onHouse_run, rfl, rfl⟩
theorem onLine_l : LiftS Try.prog pol 15 (encF lineFs) := ⟨0, 1, _, _, _, _, callN_W 20 _ _ _ _ onLine_run, rfl, rfl⟩

theorem lookup_houseF {g : Get} {f s : Nat} {bs : List Nat} {clk : Nat} (h : g f s = some (.map (encF houseFs) bs clk)) (k : Int) : lookupV Try.prog g 51 (.map f s) (.int .u8 k) true = some (.tuple [match funOf houseFs k with | some f => .func (.func f) [] [] | none => .nilfunc, .bool (funOf houseFs k).isSome]) := by
  have z : zer Try.prog 49 = some .nilFunc := by kernel_rfl
  obtain ⟨i, hi⟩ := findKey_fun k houseFs 0
  simp only [lookupV, Try.underlying51, Try.underlying5, z, plainKey, if_true, h, hi]
  cases funOf houseFs k <;> rfl
theorem lookup_lineF {g : Get} {f s : Nat} {bs : List Nat} {clk : Nat} (h : g f s = some (.map (encF lineFs) bs clk)) (k : Int) : lookupV Try.prog g 55 (.map f s) (.int .u8 k) true = some (.tuple [match funOf lineFs k with | some f => .func (.func f) [] [] | none => .nilfunc, .bool (funOf lineFs k).isSome]) := by
  have z : zer Try.prog 53 = some .nilFunc := by kernel_rfl
  obtain ⟨i, hi⟩ := findKey_fun k lineFs 0
  simp only [lookupV, Try.underlying55, Try.underlying5, z, plainKey, if_true, h, hi]
  cases funOf lineFs k <;> rfl

theorem house_fs {k : Int} {f : FuncId} (h : (k, f) ∈ houseFs) : (pol.prim f = none ∧ pol.pure 12 f = false ∧ pol.thin 12 f = false ∧ pol.lift 12 f = false ∧ pol.look 12 f = false) ∧ isHouse k = true ∧
    HSpec f (fun S c => houseDo S { c with kind := k }) := by
  simp only [houseFs, List.mem_cons, Prod.mk.injEq, List.not_mem_nil, or_false] at h
  rcases h with ⟨rfl, rfl⟩ | ⟨rfl, rfl⟩ | ⟨rfl, rfl⟩ | ⟨rfl, rfl⟩ | ⟨rfl, rfl⟩ | ⟨rfl, rfl⟩ | ⟨rfl, rfl⟩ | ⟨rfl, rfl⟩ | ⟨rfl, rfl⟩ | ⟨rfl, rfl⟩ | ⟨rfl, rfl⟩
  · exact ⟨⟨rfl, rfl, rfl, rfl, rfl⟩, rfl, set_h⟩
  · exact ⟨⟨rfl, rfl, rfl, rfl, rfl⟩, rfl, snap_h⟩
  · exact ⟨⟨rfl, rfl, rfl, rfl, rfl⟩, rfl, clone_h⟩
  · exact ⟨⟨rfl, rfl, rfl, rfl, rfl⟩, rfl, promote_h⟩
  · exact ⟨⟨rfl, rfl, rfl, rfl, rfl⟩, rfl, roll_h⟩
  · exact ⟨⟨rfl, rfl, rfl, rfl, rfl⟩, rfl, destroy_h⟩
  · exact ⟨⟨rfl, rfl, rfl, rfl, rfl⟩, rfl, load_h⟩
  · exact ⟨⟨rfl, rfl, rfl, rfl, rfl⟩, rfl, unload_h⟩
  · exact ⟨⟨rfl, rfl, rfl, rfl, rfl⟩, rfl, all_h⟩
  · exact ⟨⟨rfl, rfl, rfl, rfl, rfl⟩, rfl, commit_h⟩
  · exact ⟨⟨rfl, rfl, rfl, rfl, rfl⟩, rfl, sync_h⟩
theorem line_fs {k : Int} {f : FuncId} (h : (k, f) ∈ lineFs) : (pol.prim f = none ∧ pol.pure 12 f = false ∧ pol.thin 12 f = false ∧ pol.lift 12 f = false ∧ pol.look 12 f = false) ∧ isLine k = true ∧
    LSpec f (fun L c => lineDo k L c) := by
  simp only [lineFs, List.mem_cons, Prod.mk.injEq, List.not_mem_nil, or_false] at h
  rcases h with ⟨rfl, rfl⟩ | ⟨rfl, rfl⟩ | ⟨rfl, rfl⟩ | ⟨rfl, rfl⟩ | ⟨rfl, rfl⟩ | ⟨rfl, rfl⟩ | ⟨rfl, rfl⟩ | ⟨rfl, rfl⟩ | ⟨rfl, rfl⟩ | ⟨rfl, rfl⟩
  · exact ⟨⟨rfl, rfl, rfl, rfl, rfl⟩, rfl, make_l⟩
  · exact ⟨⟨rfl, rfl, rfl, rfl, rfl⟩, rfl, point_l⟩
  · exact ⟨⟨rfl, rfl, rfl, rfl, rfl⟩, rfl, link_l⟩
  · exact ⟨⟨rfl, rfl, rfl, rfl, rfl⟩, rfl, unlink_l⟩
  · exact ⟨⟨rfl, rfl, rfl, rfl, rfl⟩, rfl, rename_l⟩
  · exact ⟨⟨rfl, rfl, rfl, rfl, rfl⟩, rfl, read_l⟩
  · exact ⟨⟨rfl, rfl, rfl, rfl, rfl⟩, rfl, write_l⟩
  · exact ⟨⟨rfl, rfl, rfl, rfl, rfl⟩, rfl, cut_l⟩
  · exact ⟨⟨rfl, rfl, rfl, rfl, rfl⟩, rfl, stat_l⟩
  · exact ⟨⟨rfl, rfl, rfl, rfl, rfl⟩, rfl, list_l⟩
theorem house_none {k : Int} (h : funOf houseFs k = none) : isHouse k = false := by
  simp only [houseFs, funOf] at h
  repeat (split at h; · cases h)
  simp only [isHouse, Bool.or_eq_false_iff, decide_eq_false_iff_not]
  omega
theorem line_none {k : Int} (h : funOf lineFs k = none) : isLine k = false := by
  simp only [lineFs, funOf] at h
  repeat (split at h; · cases h)
  simp only [isLine, decide_eq_false_iff_not]
  omega
theorem do_h : HSpec 12 doCall := by
  rintro H h S N c dv ⟨xs, kl, hh⟩ ok hN hc
  refine cr_of Try.func12 rfl ?_
  intro n K hn F
  have sdv := IsSl.scalar hc.data
  obtain ⟨bs, clk, hm, hb⟩ := hh.lmap
  have A := F.at_ hn hh.cell
  have B := F.at_ hn hm
  have lkl := fun g hg => lookup_lines (g := g) (mf := h.mf) (ms := h.ms) (l := xs) (bs := bs) (clk := clk) hg c.a
  simp only [walk, walkL, evOp, quietOp, farOp, nov, gd, rho, putT, wr, Nat.reduceAdd, Nat.reduceSub, Bool.false_eq_true, if_true, if_false, reduceIte, reduceCtorEq, walkM, Int.reduceBEq, Int.reduceBNe, Int.reduceLT, Int.reduceLE, decide_true, decide_false, eq_self, Bool.not_true, Bool.not_false, ↓ev_fa, ↓ev_field, ↓ev_load, ↓ev_store, stO_cells, List.all_cons, List.all_nil, Bool.and_self, Bool.and_true, Try.ntmps12, ta12, new, hget_hset', hset_length, and_false, false_and, and_true, true_and, and_self, Nat.reduceEqDiff, Nat.reduceLT, Nat.lt_irrefl, Nat.not_lt_zero, splice, zerosN, fillV, walkB, pureL, V.pure, Nat.reduceMul, Nat.reduceLeDiff, Nat.one_ne_zero, List.take_zero, List.drop_succ_cons, List.drop_zero, List.take_succ_cons, List.replicate_one, List.drop_nil, List.take_nil, Nat.le_refl, Nat.zero_add, Nat.zero_mul, Nat.one_mul, Nat.mul_one, F.own, F.lt, sdv, A.get, A.ltK, B.get, B.ltK, lc_0, lc_1, lc_2, lc_3, lc_4, Nat.add_zero, callC]
  refine W.liftT onHouse_l rfl rfl rfl (by simp only [hget_hset', hset_length, F.lt, Nat.reduceEqDiff, and_false, if_false]; exact F.own 11) ?_
  intro bs1 clk1
  have k3 : hget (hset (hset (hset K n 3 (.cells (callC c dv))) n 4 (.cells [.int .i64 0, .int .i64 0, .nilslice, .nilslice, .int .i64 0, .int .u8 0, .int .i64 0, .int .i64 0, .str [], .nilslice])) n 11 (.map (encF houseFs) bs1 clk1)) n 3 = some (.cells (callC c dv)) := by simp only [hget_hset', hset_length, F.lt, Nat.reduceEqDiff, and_false, and_self, if_true, if_false]
  have k4 : hget (hset (hset (hset K n 3 (.cells (callC c dv))) n 4 (.cells [.int .i64 0, .int .i64 0, .nilslice, .nilslice, .int .i64 0, .int .u8 0, .int .i64 0, .int .i64 0, .str [], .nilslice])) n 11 (.map (encF houseFs) bs1 clk1)) n 4 = some (.cells [.int .i64 0, .int .i64 0, .nilslice, .nilslice, .int .i64 0, .int .u8 0, .int .i64 0, .int .i64 0, .str [], .nilslice]) := by simp only [hget_hset', hset_length, F.lt, Nat.reduceEqDiff, and_false, and_self, if_true, if_false]
  have k11 : hget (hset (hset (hset K n 3 (.cells (callC c dv))) n 4 (.cells [.int .i64 0, .int .i64 0, .nilslice, .nilslice, .int .i64 0, .int .u8 0, .int .i64 0, .int .i64 0, .str [], .nilslice])) n 11 (.map (encF houseFs) bs1 clk1)) n 11 = some (.map (encF houseFs) bs1 clk1) := hget_same (by simp only [hset_length]; exact F.lt)
  have k23 : hget (hset (hset (hset K n 3 (.cells (callC c dv))) n 4 (.cells [.int .i64 0, .int .i64 0, .nilslice, .nilslice, .int .i64 0, .int .u8 0, .int .i64 0, .int .i64 0, .str [], .nilslice])) n 11 (.map (encF houseFs) bs1 clk1)) n 23 = none := by simp only [hget_hset', hset_length, F.lt, Nat.reduceEqDiff, and_false, if_false]; exact F.own 23
  have klow : ∀ f s, f < n → hget (hset (hset (hset K n 3 (.cells (callC c dv))) n 4 (.cells [.int .i64 0, .int .i64 0, .nilslice, .nilslice, .int .i64 0, .int .u8 0, .int .i64 0, .int .i64 0, .str [], .nilslice])) n 11 (.map (encF houseFs) bs1 clk1)) f s = hget H f s := (fun f s h => by simp only [hget_hset', hset_length, F.lt, Nat.ne_of_lt h, false_and, if_false]; exact F.low f s h)
  have klt : n < (hset (hset (hset K n 3 (.cells (callC c dv))) n 4 (.cells [.int .i64 0, .int .i64 0, .nilslice, .nilslice, .int .i64 0, .int .u8 0, .int .i64 0, .int .i64 0, .str [], .nilslice])) n 11 (.map (encF houseFs) bs1 clk1)).length := (by simp only [hset_length]; exact F.lt)
  have klen : (hset (hset (hset K n 3 (.cells (callC c dv))) n 4 (.cells [.int .i64 0, .int .i64 0, .nilslice, .nilslice, .int .i64 0, .int .u8 0, .int .i64 0, .int .i64 0, .str [], .nilslice])) n 11 (.map (encF houseFs) bs1 clk1)).length = n + 1 := by simp only [hset_length]; exact F.len
  have kown : ∀ (s : Nat) (ys : List V), hget (hset (hset (hset K n 3 (.cells (callC c dv))) n 4 (.cells [.int .i64 0, .int .i64 0, .nilslice, .nilslice, .int .i64 0, .int .u8 0, .int .i64 0, .int .i64 0, .str [], .nilslice])) n 11 (.map (encF houseFs) bs1 clk1)) n s = some (.cells ys) → ys.length ≠ 2 := by
    intro s ys hg
    simp only [hget_hset', hset_length, F.lt, true_and] at hg
    split at hg
    · cases hg
    · split at hg
      · cases hg; decide
      · split at hg
        · cases hg; simp [callC]
        · rw [F.own] at hg; cases hg
  simp only [callC] at k3 k4 k11 k23 klow klt klen kown
  generalize hset (hset (hset K n 3 _) n 4 _) n 11 _ = K1 at *
  have lkh := lookup_houseF k11 c.kind
  have hh1 : HouseAt K1 h S xs kl := hh.low fun f s hf => klow f s (by omega)
  simp only [walk, walkL, evOp, quietOp, farOp, nov, gd, rho, putT, wr, Nat.reduceAdd, Nat.reduceSub, Bool.false_eq_true, if_true, if_false, reduceIte, reduceCtorEq, walkM, Int.reduceBEq, Int.reduceBNe, Int.reduceLT, Int.reduceLE, decide_true, decide_false, eq_self, Bool.not_true, Bool.not_false, ↓ev_fa, ↓ev_field, ↓ev_load, ↓ev_store, stO_cells, List.all_cons, List.all_nil, Bool.and_self, Bool.and_true, ta12, new, hget_hset', hset_length, and_false, false_and, and_true, true_and, and_self, Nat.reduceEqDiff, Nat.reduceLT, Nat.lt_irrefl, Nat.not_lt_zero, splice, zerosN, fillV, walkB, pureL, V.pure, Nat.reduceMul, Nat.reduceLeDiff, Nat.one_ne_zero, List.take_zero, List.drop_succ_cons, List.drop_zero, List.take_succ_cons, List.replicate_one, List.drop_nil, List.take_nil, Nat.le_refl, Nat.zero_add, Nat.zero_mul, Nat.one_mul, Nat.mul_one, k3, callC, ↓lkh]
  refine W.opsC [(0, 2)] (by kernel_rfl) ⟨indep_ids (by simp [idsOf, Op.operands, rho, V.id?]) (by simp) (by simp), trivial⟩ ?_
  have zc : asideO (.cells [.int .i64 0, .int .i64 0, .nilslice, .nilslice, .int .i64 0, .int .u8 0, .int .i64 0, .int .i64 0, .str [], .nilslice]) = true := rfl
  have okd := stOk_do ok c
  -- the end behind a house's call
  have fin : ∀ (K1 : Heap), K1.length = n + 1 → (∀ f s, f < n → hget K1 f s = hget H f s) → (∀ (s : Nat) (ys : List V), hget K1 n s = some (.cells ys) → ys.length ≠ 2) → hget K1 n 4 = some (.cells [.int .i64 0, .int .i64 0, .nilslice, .nilslice, .int .i64 0, .int .u8 0, .int .i64 0, .int .i64 0, .str [], .nilslice]) → ∀ (J : Heap) (S' : MSt) (v : V) (o : O), HouseOut K1 J h S' → Aside K1 J → StOk S' (N + 1) → HouseOut H (popF n v (hset J n 4 o)) h S' ∧ Aside H (popF n v (hset J n 4 o)) := by
    rintro K1 klen klow kown k4 J S' v o ⟨xs', kl', hj, hkl⟩ ha ok'
    have ln : n < J.length := by have := ha.len; omega
    have j4 := ha.get n 4 _ k4 zc
    have h16 : ∀ x ∈ xs', x.line.objs.length = 16 := fun x hx => (ok'.ok (x.id, x.line) (by rw [hj.lines]; exact List.mem_map.2 ⟨x, hx, rfl⟩)).n16
    have low2 : ∀ q ∈ kl', (q.1 < n ∧ ∃ ys : List V, hget K1 q.1 q.2 = some (.cells ys) ∧ ys.length = 2) ∨ ∃ x ∈ xs', x.loc.kf = q.1 ∧ x.loc.ks = q.2 := by
      intro q hq
      rcases hkl q hq with ⟨ys, h1, h2⟩ | h1
      · left
        refine ⟨?_, ys, h1, h2⟩
        have := hget_lt h1
        rcases Nat.lt_or_ge q.1 n with h3 | h3
        · exact h3
        · have e : q.1 = n := by omega
          rw [e] at h1
          exact absurd h2 (kown _ _ h1)
      · exact .inr h1
    refine ⟨⟨xs', kl', (hj.aside (o := o) j4 rfl h16).pop A.lt B.lt fun q hq => ?_, fun q hq => ?_⟩, ?_, fun f s o' g1 g2 => ?_⟩
    · rcases low2 q hq with ⟨h1, _⟩ | h1
      · exact .inl h1
      · exact .inr h1
    · rcases low2 q hq with ⟨h1, ys, h2, h3⟩ | h1
      · exact .inl ⟨ys, by rw [← klow _ _ h1]; exact h2, h3⟩
      · exact .inr h1
    · exact Nat.le_trans (by omega) (popF_len (n := n) (by simp only [hset_length]; omega))
    · have hf := hget_lt g1
      rw [popF_get (by omega), hget_frame ln (by omega)]
      exact ha.get f s o' ((klow f s (by omega)).trans g1) g2
  cases hf : funOf houseFs c.kind with
  | some f =>
    obtain ⟨⟨p1, p2, p3, p4, p5⟩, p6, p7⟩ := house_fs (funOf_mem hf)
    have hd : doCall S c = houseDo S c := by rw [doCall, p6]; rfl
    simp only [walk, walkL, evOp, quietOp, farOp, nov, gd, rho, putT, wr, Nat.reduceAdd, Nat.reduceSub, Bool.false_eq_true, if_true, if_false, reduceIte, reduceCtorEq, walkM, Int.reduceBEq, Int.reduceBNe, Int.reduceLT, Int.reduceLE, decide_true, decide_false, eq_self, Bool.not_true, Bool.not_false, ↓ev_fa, ↓ev_field, ↓ev_load, ↓ev_store, stO_cells, List.all_cons, List.all_nil, Bool.and_self, Bool.and_true, Option.isSome_some, ta12, new, hget_hset', hset_length, and_false, false_and, and_true, true_and, and_self, Nat.reduceEqDiff, Nat.reduceLT, Nat.lt_irrefl, Nat.not_lt_zero, splice, zerosN, fillV, walkB, pureL, V.pure, Nat.reduceMul, Nat.reduceLeDiff, Nat.one_ne_zero, List.take_zero, List.drop_succ_cons, List.drop_zero, List.take_succ_cons, List.replicate_one, List.drop_nil, List.take_nil, Nat.le_refl, Nat.zero_add, Nat.zero_mul, Nat.one_mul, Nat.mul_one, k3, callC]
    refine W.call (p7 K1 h S N c dv ⟨xs, kl, hh1⟩ ok hN hc) p1 p2 p3 p4 p5 ?_
    rintro v J ⟨hr, ho, ha⟩
    have ln : n < J.length := Nat.lt_of_lt_of_le klt ha.len
    have j4 := ha.get n 4 _ k4 zc
    obtain ⟨x3, x4, x10, e1, e2, e5, e6, e7, e8, e9, rfl, s3, s4, s10⟩ := hr.cells
    simp only [walk, walkL, evOp, quietOp, farOp, nov, gd, rho, putT, wr, Nat.reduceAdd, Nat.reduceSub, Bool.false_eq_true, if_true, if_false, reduceIte, reduceCtorEq, walkM, Int.reduceBEq, Int.reduceBNe, Int.reduceLT, Int.reduceLE, decide_true, decide_false, eq_self, Bool.not_true, Bool.not_false, ↓ev_fa, ↓ev_field, ↓ev_load, ↓ev_store, stO_cells, List.all_cons, List.all_nil, Bool.and_self, Bool.and_true, ta12, new, hget_hset', hset_length, and_false, false_and, and_true, true_and, and_self, Nat.reduceEqDiff, Nat.reduceLT, Nat.lt_irrefl, Nat.not_lt_zero, splice, zerosN, fillV, walkB, pureL, V.pure, Nat.reduceMul, Nat.reduceLeDiff, Nat.one_ne_zero, List.take_zero, List.drop_succ_cons, List.drop_zero, List.take_succ_cons, List.replicate_one, List.drop_nil, List.take_nil, Nat.le_refl, Nat.zero_add, Nat.zero_mul, Nat.one_mul, Nat.mul_one, ln, j4, s3, s4, s10]
    refine W.done (EndK.ret (res_cell rfl rfl (hget_same (by first | exact F.lt | assumption | (simp only [hset_length]; first | exact F.lt | assumption))) (by rw [rd36]; rfl)) ?_)
    rw [hd]
    exact ⟨hr, fin K1 klen klow kown k4 J _ _ _ ho ha (by rw [← hd]; exact okd)⟩
  | none =>
    have p6 := house_none hf
    have hw := hh.lines ▸ lineOf_ent xs c.a
    have hd : doCall S c = if !isLine c.kind then (S, fail 2) else match lineOf S.lines c.a with
      | none => (S, fail 6)
      | some L => if !(S.keyOf L).loaded then (S, fail 200) else if c.kind ≠ 18 ∧ nameE c.name ≠ 0 then (S, fail 240) else
        ({ S with lines := putL S.lines c.a (lineDo c.kind L c).1 }, (lineDo c.kind L c).2) := by rw [doCall, p6]; rfl
    simp only [walk, walkL, evOp, quietOp, farOp, nov, gd, rho, putT, wr, Nat.reduceAdd, Nat.reduceSub, Bool.false_eq_true, if_true, if_false, reduceIte, reduceCtorEq, walkM, Int.reduceBEq, Int.reduceBNe, Int.reduceLT, Int.reduceLE, decide_true, decide_false, eq_self, Bool.not_true, Bool.not_false, ↓ev_fa, ↓ev_field, ↓ev_load, ↓ev_store, stO_cells, List.all_cons, List.all_nil, Bool.and_self, Bool.and_true, Option.isSome_none, ta12, new, hget_hset', hset_length, and_false, false_and, and_true, true_and, and_self, Nat.reduceEqDiff, Nat.reduceLT, Nat.lt_irrefl, Nat.not_lt_zero, splice, zerosN, fillV, walkB, pureL, V.pure, Nat.reduceMul, Nat.reduceLeDiff, Nat.one_ne_zero, List.take_zero, List.drop_succ_cons, List.drop_zero, List.take_succ_cons, List.replicate_one, List.drop_nil, List.take_nil, Nat.le_refl, Nat.zero_add, Nat.zero_mul, Nat.one_mul, Nat.mul_one, k3, callC]
    refine W.liftT onLine_l rfl rfl rfl k23 ?_
    intro bs2 clk2
    have c1 : hget K1 h.f h.s = _ := (klow _ _ A.lt).trans hh.cell
    have m1 : hget K1 h.mf h.ms = _ := (klow _ _ B.lt).trans hm
    have lkf := lookup_lineF (hget_same (o := .map (encF lineFs) bs2 clk2) klt (s := 23)) c.kind
    have g3 : hget (hset K1 n 23 (.map (encF lineFs) bs2 clk2)) n 3 = _ := (hget_slot klt (by decide)).trans k3
    have g4 : hget (hset K1 n 23 (.map (encF lineFs) bs2 clk2)) n 4 = _ := (hget_slot klt (by decide)).trans k4
    have gc : hget (hset K1 n 23 (.map (encF lineFs) bs2 clk2)) h.f h.s = _ := (hget_frame klt A.ne).trans c1
    have gm : hget (hset K1 n 23 (.map (encF lineFs) bs2 clk2)) h.mf h.ms = _ := (hget_frame klt B.ne).trans m1
    have lk2 := lkl _ gm
    have glt : n < (hset K1 n 23 (.map (encF lineFs) bs2 clk2)).length := by simp only [hset_length]; exact klt
    have glen : (hset K1 n 23 (.map (encF lineFs) bs2 clk2)).length = n + 1 := by simp only [hset_length]; exact klen
    have glow : ∀ f s, f < n → hget (hset K1 n 23 (.map (encF lineFs) bs2 clk2)) f s = hget H f s := fun f s h => (hget_frame klt (by omega)).trans (klow f s h)
    have gown : ∀ (s : Nat) (ys : List V), hget (hset K1 n 23 (.map (encF lineFs) bs2 clk2)) n s = some (.cells ys) → ys.length ≠ 2 := by
      intro s ys hg
      simp only [hget_hset', klt, true_and] at hg
      split at hg
      · cases hg
      · exact kown s ys hg
    generalize hset K1 n 23 (.map (encF lineFs) bs2 clk2) = K2 at *
    have hh2 : HouseAt K2 h S xs kl := hh.low fun f s hf => glow f s (by omega)
    have bad : ∀ (J : Heap) (e : Int) (v : V) (o : O), doCall S c = (S, fail e) → Ch K2 J [] → RepV (failV e) (doCall S c).2 ∧ HouseOut H (popF n v (hset J n 4 o)) h (doCall S c).1 ∧ Aside H (popF n v (hset J n 4 o)) := by
      intro J e v o he hch
      rw [he] at okd ⊢
      exact ⟨rep_fail e, fin K2 glen glow gown g4 J _ _ _ ⟨xs, kl, hh2.ch hch, hh2.kOut⟩ (.of_ch0 hch) okd⟩
    cases hfl : funOf lineFs c.kind with
    | none =>
      rw [hfl] at lkf
      rw [line_none hfl] at hd
      simp only [walk, walkL, evOp, quietOp, farOp, nov, gd, rho, putT, wr, Nat.reduceAdd, Nat.reduceSub, Bool.false_eq_true, if_true, if_false, reduceIte, reduceCtorEq, walkM, Int.reduceBEq, Int.reduceBNe, Int.reduceLT, Int.reduceLE, decide_true, decide_false, eq_self, Bool.not_true, Bool.not_false, ↓ev_fa, ↓ev_field, ↓ev_load, ↓ev_store, stO_cells, List.all_cons, List.all_nil, Bool.and_self, Bool.and_true, ta12, new, hget_hset', hset_length, and_false, false_and, and_true, true_and, and_self, Nat.reduceEqDiff, Nat.reduceLT, Nat.lt_irrefl, Nat.not_lt_zero, splice, zerosN, fillV, walkB, pureL, V.pure, Nat.reduceMul, Nat.reduceLeDiff, Nat.one_ne_zero, List.take_zero, List.drop_succ_cons, List.drop_zero, List.take_succ_cons, List.replicate_one, List.drop_nil, List.take_nil, Nat.le_refl, Nat.zero_add, Nat.zero_mul, Nat.one_mul, Nat.mul_one, g3, callC, ↓lkf]
      refine W.opsC [(0, 2)] (by kernel_rfl) ⟨indep_ids (by simp [idsOf, Op.operands, rho, V.id?]) (by simp) (by simp), trivial⟩ ?_
      simp only [walk, walkL, evOp, quietOp, farOp, nov, gd, rho, putT, wr, Nat.reduceAdd, Nat.reduceSub, Bool.false_eq_true, if_true, if_false, reduceIte, reduceCtorEq, walkM, Int.reduceBEq, Int.reduceBNe, Int.reduceLT, Int.reduceLE, decide_true, decide_false, eq_self, Bool.not_true, Bool.not_false, ↓ev_fa, ↓ev_field, ↓ev_load, ↓ev_store, stO_cells, List.all_cons, List.all_nil, Bool.and_self, Bool.and_true, ta12, new, hget_hset', hset_length, and_false, false_and, and_true, true_and, and_self, Nat.reduceEqDiff, Nat.reduceLT, Nat.lt_irrefl, Nat.not_lt_zero, splice, zerosN, fillV, walkB, pureL, V.pure, Nat.reduceMul, Nat.reduceLeDiff, Nat.one_ne_zero, List.take_zero, List.drop_succ_cons, List.drop_zero, List.take_succ_cons, List.replicate_one, List.drop_nil, List.take_nil, Nat.le_refl, Nat.zero_add, Nat.zero_mul, Nat.one_mul, Nat.mul_one, g3, gc, callC, ↓lk2]
      refine W.opsK (by kernel_rfl) ?_
      simp only [walk, walkL, evOp, quietOp, farOp, nov, gd, rho, putT, wr, Nat.reduceAdd, Nat.reduceSub, Bool.false_eq_true, if_true, if_false, reduceIte, reduceCtorEq, walkM, Int.reduceBEq, Int.reduceBNe, Int.reduceLT, Int.reduceLE, decide_true, decide_false, eq_self, Bool.not_true, Bool.not_false, ↓ev_fa, ↓ev_field, ↓ev_load, ↓ev_store, stO_cells, List.all_cons, List.all_nil, Bool.and_self, Bool.and_true, Option.isSome_none]
      refine W.pcall (fails_fz 2) rfl rfl rfl ?_
      rintro _ rfl
      simp only [walk, walkL, evOp, quietOp, farOp, nov, gd, rho, putT, wr, Nat.reduceAdd, Nat.reduceSub, Bool.false_eq_true, if_true, if_false, reduceIte, reduceCtorEq, walkM, Int.reduceBEq, Int.reduceBNe, Int.reduceLT, Int.reduceLE, decide_true, decide_false, eq_self, Bool.not_true, Bool.not_false, ↓ev_fa, ↓ev_field, ↓ev_load, ↓ev_store, stO_cells, List.all_cons, List.all_nil, Bool.and_self, Bool.and_true, failV, ta12, new, hget_hset', hset_length, and_false, false_and, and_true, true_and, and_self, Nat.reduceEqDiff, Nat.reduceLT, Nat.lt_irrefl, Nat.not_lt_zero, glt, g4, splice, zerosN, fillV, walkB, pureL, V.pure, Nat.reduceMul, Nat.reduceLeDiff, Nat.one_ne_zero, List.take_zero, List.drop_succ_cons, List.drop_zero, List.take_succ_cons, List.replicate_one, List.drop_nil, List.take_nil, Nat.le_refl, Nat.zero_add, Nat.zero_mul, Nat.one_mul, Nat.mul_one]
      exact W.done (EndK.ret (res_cell rfl rfl (hget_same (by first | exact F.lt | assumption | (simp only [hset_length]; first | exact F.lt | assumption))) (by rw [rd36]; rfl)) (bad _ 2 _ _ (hd) (Ch.refl K2)))
    | some f =>
      rw [hfl] at lkf
      obtain ⟨⟨p1, p2, p3, p4, p5⟩, p7, p8⟩ := line_fs (funOf_mem hfl)
      rw [p7] at hd
      simp only [Bool.not_true, Bool.false_eq_true, if_false] at hd
      simp only [walk, walkL, evOp, quietOp, farOp, nov, gd, rho, putT, wr, Nat.reduceAdd, Nat.reduceSub, Bool.false_eq_true, if_true, if_false, reduceIte, reduceCtorEq, walkM, Int.reduceBEq, Int.reduceBNe, Int.reduceLT, Int.reduceLE, decide_true, decide_false, eq_self, Bool.not_true, Bool.not_false, ↓ev_fa, ↓ev_field, ↓ev_load, ↓ev_store, stO_cells, List.all_cons, List.all_nil, Bool.and_self, Bool.and_true, ta12, new, hget_hset', hset_length, and_false, false_and, and_true, true_and, and_self, Nat.reduceEqDiff, Nat.reduceLT, Nat.lt_irrefl, Nat.not_lt_zero, splice, zerosN, fillV, walkB, pureL, V.pure, Nat.reduceMul, Nat.reduceLeDiff, Nat.one_ne_zero, List.take_zero, List.drop_succ_cons, List.drop_zero, List.take_succ_cons, List.replicate_one, List.drop_nil, List.take_nil, Nat.le_refl, Nat.zero_add, Nat.zero_mul, Nat.one_mul, Nat.mul_one, g3, callC, ↓lkf]
      refine W.opsC [(0, 2)] (by kernel_rfl) ⟨indep_ids (by simp [idsOf, Op.operands, rho, V.id?]) (by simp) (by simp), trivial⟩ ?_
      simp only [walk, walkL, evOp, quietOp, farOp, nov, gd, rho, putT, wr, Nat.reduceAdd, Nat.reduceSub, Bool.false_eq_true, if_true, if_false, reduceIte, reduceCtorEq, walkM, Int.reduceBEq, Int.reduceBNe, Int.reduceLT, Int.reduceLE, decide_true, decide_false, eq_self, Bool.not_true, Bool.not_false, ↓ev_fa, ↓ev_field, ↓ev_load, ↓ev_store, stO_cells, List.all_cons, List.all_nil, Bool.and_self, Bool.and_true, ta12, new, hget_hset', hset_length, and_false, false_and, and_true, true_and, and_self, Nat.reduceEqDiff, Nat.reduceLT, Nat.lt_irrefl, Nat.not_lt_zero, splice, zerosN, fillV, walkB, pureL, V.pure, Nat.reduceMul, Nat.reduceLeDiff, Nat.one_ne_zero, List.take_zero, List.drop_succ_cons, List.drop_zero, List.take_succ_cons, List.replicate_one, List.drop_nil, List.take_nil, Nat.le_refl, Nat.zero_add, Nat.zero_mul, Nat.one_mul, Nat.mul_one, g3, gc, callC, ↓lk2]
      refine W.opsK (by kernel_rfl) ?_
      cases hx : entOf xs c.a with
      | none =>
        rw [hx] at hw
        rw [hw] at hd
        simp only [walk, walkL, evOp, quietOp, farOp, nov, gd, rho, putT, wr, Nat.reduceAdd, Nat.reduceSub, Bool.false_eq_true, if_true, if_false, reduceIte, reduceCtorEq, walkM, Int.reduceBEq, Int.reduceBNe, Int.reduceLT, Int.reduceLE, decide_true, decide_false, eq_self, Bool.not_true, Bool.not_false, ↓ev_fa, ↓ev_field, ↓ev_load, ↓ev_store, stO_cells, List.all_cons, List.all_nil, Bool.and_self, Bool.and_true, Option.isSome_some, bn_pt0 Try.underlying57]
        refine W.pcall (fails_fz 6) rfl rfl rfl ?_
        rintro _ rfl
        simp only [walk, walkL, evOp, quietOp, farOp, nov, gd, rho, putT, wr, Nat.reduceAdd, Nat.reduceSub, Bool.false_eq_true, if_true, if_false, reduceIte, reduceCtorEq, walkM, Int.reduceBEq, Int.reduceBNe, Int.reduceLT, Int.reduceLE, decide_true, decide_false, eq_self, Bool.not_true, Bool.not_false, ↓ev_fa, ↓ev_field, ↓ev_load, ↓ev_store, stO_cells, List.all_cons, List.all_nil, Bool.and_self, Bool.and_true, failV, ta12, new, hget_hset', hset_length, and_false, false_and, and_true, true_and, and_self, Nat.reduceEqDiff, Nat.reduceLT, Nat.lt_irrefl, Nat.not_lt_zero, glt, g4, splice, zerosN, fillV, walkB, pureL, V.pure, Nat.reduceMul, Nat.reduceLeDiff, Nat.one_ne_zero, List.take_zero, List.drop_succ_cons, List.drop_zero, List.take_succ_cons, List.replicate_one, List.drop_nil, List.take_nil, Nat.le_refl, Nat.zero_add, Nat.zero_mul, Nat.one_mul, Nat.mul_one]
        exact W.done (EndK.ret (res_cell rfl rfl (hget_same (by first | exact F.lt | assumption | (simp only [hset_length]; first | exact F.lt | assumption))) (by rw [rd36]; rfl)) (bad _ 6 _ _ (hd) (Ch.refl K2)))
      | some x =>
        rw [hx] at hw
        rw [hw] at hd
        simp only [Option.map_some] at hd
        have hxm := (entOf_mem hx).1
        obtain ⟨l, b1, k1, hL⟩ := hh2.line x hxm
        obtain ⟨hk1, hk2, hk3⟩ := hh2.keyAt hxm
        have okL : LineOk x.line := ok.ok (x.id, x.line) (by rw [hh.lines]; exact List.mem_map.2 ⟨x, hxm, rfl⟩)
        have gx := hL.cells
        have gk := hk3
        simp only [walk, walkL, evOp, quietOp, farOp, nov, gd, rho, putT, wr, Nat.reduceAdd, Nat.reduceSub, Bool.false_eq_true, if_true, if_false, reduceIte, reduceCtorEq, walkM, Int.reduceBEq, Int.reduceBNe, Int.reduceLT, Int.reduceLE, decide_true, decide_false, eq_self, Bool.not_true, Bool.not_false, ↓ev_fa, ↓ev_field, ↓ev_load, ↓ev_store, stO_cells, List.all_cons, List.all_nil, Bool.and_self, Bool.and_true, Option.isSome_some, bn_pt1 Try.underlying57, ta12, new, hget_hset', hset_length, and_false, false_and, and_true, true_and, and_self, Nat.reduceEqDiff, Nat.reduceLT, Nat.lt_irrefl, Nat.not_lt_zero, splice, zerosN, fillV, walkB, pureL, V.pure, Nat.reduceMul, Nat.reduceLeDiff, Nat.one_ne_zero, List.take_zero, List.drop_succ_cons, List.drop_zero, List.take_succ_cons, List.replicate_one, List.drop_nil, List.take_nil, Nat.le_refl, Nat.zero_add, Nat.zero_mul, Nat.one_mul, Nat.mul_one, gx, gk, lc_3]
        refine W.ite (fun q1 => ?_) (fun q1 => ?_)
        · rw [q1] at hd
          simp only [walk, walkL, evOp, quietOp, farOp, nov, gd, rho, putT, wr, Nat.reduceAdd, Nat.reduceSub, Bool.false_eq_true, if_true, if_false, reduceIte, reduceCtorEq, walkM, Int.reduceBEq, Int.reduceBNe, Int.reduceLT, Int.reduceLE, decide_true, decide_false, eq_self, Bool.not_true, Bool.not_false, ↓ev_fa, ↓ev_field, ↓ev_load, ↓ev_store, stO_cells, List.all_cons, List.all_nil, Bool.and_self, Bool.and_true]
          refine W.pcall (fails_fz 200) rfl rfl rfl ?_
          rintro _ rfl
          simp only [walk, walkL, evOp, quietOp, farOp, nov, gd, rho, putT, wr, Nat.reduceAdd, Nat.reduceSub, Bool.false_eq_true, if_true, if_false, reduceIte, reduceCtorEq, walkM, Int.reduceBEq, Int.reduceBNe, Int.reduceLT, Int.reduceLE, decide_true, decide_false, eq_self, Bool.not_true, Bool.not_false, ↓ev_fa, ↓ev_field, ↓ev_load, ↓ev_store, stO_cells, List.all_cons, List.all_nil, Bool.and_self, Bool.and_true, failV, ta12, new, hget_hset', hset_length, and_false, false_and, and_true, true_and, and_self, Nat.reduceEqDiff, Nat.reduceLT, Nat.lt_irrefl, Nat.not_lt_zero, glt, g4, splice, zerosN, fillV, walkB, pureL, V.pure, Nat.reduceMul, Nat.reduceLeDiff, Nat.one_ne_zero, List.take_zero, List.drop_succ_cons, List.drop_zero, List.take_succ_cons, List.replicate_one, List.drop_nil, List.take_nil, Nat.le_refl, Nat.zero_add, Nat.zero_mul, Nat.one_mul, Nat.mul_one]
          exact W.done (EndK.ret (res_cell rfl rfl (hget_same (by first | exact F.lt | assumption | (simp only [hset_length]; first | exact F.lt | assumption))) (by rw [rd36]; rfl)) (bad _ 200 _ _ (hd) (Ch.refl K2)))
        · rw [q1] at hd
          simp only [Bool.false_eq_true, if_false] at hd
          simp only [walk, walkL, evOp, quietOp, farOp, nov, gd, rho, putT, wr, Nat.reduceAdd, Nat.reduceSub, Bool.false_eq_true, if_true, if_false, reduceIte, reduceCtorEq, walkM, Int.reduceBEq, Int.reduceBNe, Int.reduceLT, Int.reduceLE, decide_true, decide_false, eq_self, Bool.not_true, Bool.not_false, ↓ev_fa, ↓ev_field, ↓ev_load, ↓ev_store, stO_cells, List.all_cons, List.all_nil, Bool.and_self, Bool.and_true, ta12, new, hget_hset', hset_length, and_false, false_and, and_true, true_and, and_self, Nat.reduceEqDiff, Nat.reduceLT, Nat.lt_irrefl, Nat.not_lt_zero, splice, zerosN, fillV, walkB, pureL, V.pure, Nat.reduceMul, Nat.reduceLeDiff, Nat.one_ne_zero, List.take_zero, List.drop_succ_cons, List.drop_zero, List.take_succ_cons, List.replicate_one, List.drop_nil, List.take_nil, Nat.le_refl, Nat.zero_add, Nat.zero_mul, Nat.one_mul, Nat.mul_one, g3, callC]
          refine W.guardT (fun q2 => ?_) (fun q2 => ?_)
          · have q2' : c.kind ≠ 18 := by simpa using q2
            simp only [walk, walkL, evOp, quietOp, farOp, nov, gd, rho, putT, wr, Nat.reduceAdd, Nat.reduceSub, Bool.false_eq_true, if_true, if_false, reduceIte, reduceCtorEq, walkM, Int.reduceBEq, Int.reduceBNe, Int.reduceLT, Int.reduceLE, decide_true, decide_false, eq_self, Bool.not_true, Bool.not_false, ↓ev_fa, ↓ev_field, ↓ev_load, ↓ev_store, stO_cells, List.all_cons, List.all_nil, Bool.and_self, Bool.and_true, q2, ta12, new, hget_hset', hset_length, and_false, false_and, and_true, true_and, and_self, Nat.reduceEqDiff, Nat.reduceLT, Nat.lt_irrefl, Nat.not_lt_zero, splice, zerosN, fillV, walkB, pureL, V.pure, Nat.reduceMul, Nat.reduceLeDiff, Nat.one_ne_zero, List.take_zero, List.drop_succ_cons, List.drop_zero, List.take_succ_cons, List.replicate_one, List.drop_nil, List.take_nil, Nat.le_refl, Nat.zero_add, Nat.zero_mul, Nat.one_mul, Nat.mul_one, g3, callC]
            refine W.pcall (named_fz c.name (by have := hc.name; omega)) rfl rfl rfl ?_
            rintro _ rfl
            simp only [walk, walkL, evOp, quietOp, farOp, nov, gd, rho, putT, wr, Nat.reduceAdd, Nat.reduceSub, Bool.false_eq_true, if_true, if_false, reduceIte, reduceCtorEq, walkM, Int.reduceBEq, Int.reduceBNe, Int.reduceLT, Int.reduceLE, decide_true, decide_false, eq_self, Bool.not_true, Bool.not_false, ↓ev_fa, ↓ev_field, ↓ev_load, ↓ev_store, stO_cells, List.all_cons, List.all_nil, Bool.and_self, Bool.and_true, q2]
            refine W.ite (fun q3 => ?_) (fun q3 => ?_)
            · have q3' : nameE c.name ≠ 0 := by simpa using q3
              rw [if_pos ⟨q2', q3'⟩] at hd
              simp only [walk, walkL, evOp, quietOp, farOp, nov, gd, rho, putT, wr, Nat.reduceAdd, Nat.reduceSub, Bool.false_eq_true, if_true, if_false, reduceIte, reduceCtorEq, walkM, Int.reduceBEq, Int.reduceBNe, Int.reduceLT, Int.reduceLE, decide_true, decide_false, eq_self, Bool.not_true, Bool.not_false, ↓ev_fa, ↓ev_field, ↓ev_load, ↓ev_store, stO_cells, List.all_cons, List.all_nil, Bool.and_self, Bool.and_true]
              refine W.pcall (fails_fz 240) rfl rfl rfl ?_
              rintro _ rfl
              simp only [walk, walkL, evOp, quietOp, farOp, nov, gd, rho, putT, wr, Nat.reduceAdd, Nat.reduceSub, Bool.false_eq_true, if_true, if_false, reduceIte, reduceCtorEq, walkM, Int.reduceBEq, Int.reduceBNe, Int.reduceLT, Int.reduceLE, decide_true, decide_false, eq_self, Bool.not_true, Bool.not_false, ↓ev_fa, ↓ev_field, ↓ev_load, ↓ev_store, stO_cells, List.all_cons, List.all_nil, Bool.and_self, Bool.and_true, failV, ta12, new, hget_hset', hset_length, and_false, false_and, and_true, true_and, and_self, Nat.reduceEqDiff, Nat.reduceLT, Nat.lt_irrefl, Nat.not_lt_zero, glt, g4, splice, zerosN, fillV, walkB, pureL, V.pure, Nat.reduceMul, Nat.reduceLeDiff, Nat.one_ne_zero, List.take_zero, List.drop_succ_cons, List.drop_zero, List.take_succ_cons, List.replicate_one, List.drop_nil, List.take_nil, Nat.le_refl, Nat.zero_add, Nat.zero_mul, Nat.one_mul, Nat.mul_one]
              exact W.done (EndK.ret (res_cell rfl rfl (hget_same (by first | exact F.lt | assumption | (simp only [hset_length]; first | exact F.lt | assumption))) (by rw [rd36]; rfl)) (bad _ 240 _ _ (hd) (Ch.refl K2)))
            · have q3' : ¬ nameE c.name ≠ 0 := by simpa using q3
              rw [if_neg (fun h => q3' h.2)] at hd
              simp only [walk, walkL, evOp, quietOp, farOp, nov, gd, rho, putT, wr, Nat.reduceAdd, Nat.reduceSub, Bool.false_eq_true, if_true, if_false, reduceIte, reduceCtorEq, walkM, Int.reduceBEq, Int.reduceBNe, Int.reduceLT, Int.reduceLE, decide_true, decide_false, eq_self, Bool.not_true, Bool.not_false, ↓ev_fa, ↓ev_field, ↓ev_load, ↓ev_store, stO_cells, List.all_cons, List.all_nil, Bool.and_self, Bool.and_true, ta12, new, hget_hset', hset_length, and_false, false_and, and_true, true_and, and_self, Nat.reduceEqDiff, Nat.reduceLT, Nat.lt_irrefl, Nat.not_lt_zero, splice, zerosN, fillV, walkB, pureL, V.pure, Nat.reduceMul, Nat.reduceLeDiff, Nat.one_ne_zero, List.take_zero, List.drop_succ_cons, List.drop_zero, List.take_succ_cons, List.replicate_one, List.drop_nil, List.take_nil, Nat.le_refl, Nat.zero_add, Nat.zero_mul, Nat.one_mul, Nat.mul_one, g3, callC]
              refine W.call (p8 K2 x.loc x.line c dv okL ⟨l, b1, k1, hL⟩ hc) p1 p2 p3 p4 p5 ?_
              rintro v J ⟨hr, hl, hrest⟩
              have hk4 : (lineDo c.kind x.line c).1.key = x.line.key := lineDo_key _ _ _
              have hJ : HouseAt J h { S with lines := Go.Mod.putL S.lines c.a (lineDo c.kind x.line c).1 } (putE xs c.a (lineDo c.kind x.line c).1 x.loc) kl := hh2.line_upd (hh.uniq ok) hx hl hrest hk4
              have haJ : Aside K2 J := by
                refine ⟨hrest.len, fun f s o g1 g2 => ?_⟩
                rw [hrest.get f s (hget_lt g1) (aside_ne g1 g2 hL.cells (as_line (by rw [hL.obs.len]; exact okL.n16))) (aside_ne g1 g2 hL.names rfl)]
                exact g1
              have ln : n < J.length := Nat.lt_of_lt_of_le glt haJ.len
              have j4 := haJ.get n 4 _ g4 zc
              obtain ⟨x3, x4, x10, e1, e2, e5, e6, e7, e8, e9, rfl, s3, s4, s10⟩ := hr.cells
              simp only [walk, walkL, evOp, quietOp, farOp, nov, gd, rho, putT, wr, Nat.reduceAdd, Nat.reduceSub, Bool.false_eq_true, if_true, if_false, reduceIte, reduceCtorEq, walkM, Int.reduceBEq, Int.reduceBNe, Int.reduceLT, Int.reduceLE, decide_true, decide_false, eq_self, Bool.not_true, Bool.not_false, ↓ev_fa, ↓ev_field, ↓ev_load, ↓ev_store, stO_cells, List.all_cons, List.all_nil, Bool.and_self, Bool.and_true, ta12, new, hget_hset', hset_length, and_false, false_and, and_true, true_and, and_self, Nat.reduceEqDiff, Nat.reduceLT, Nat.lt_irrefl, Nat.not_lt_zero, splice, zerosN, fillV, walkB, pureL, V.pure, Nat.reduceMul, Nat.reduceLeDiff, Nat.one_ne_zero, List.take_zero, List.drop_succ_cons, List.drop_zero, List.take_succ_cons, List.replicate_one, List.drop_nil, List.take_nil, Nat.le_refl, Nat.zero_add, Nat.zero_mul, Nat.one_mul, Nat.mul_one, ln, j4, s3, s4, s10]
              refine W.done (EndK.ret (res_cell rfl rfl (hget_same (by first | exact F.lt | assumption | (simp only [hset_length]; first | exact F.lt | assumption))) (by rw [rd36]; rfl)) ?_)
              rw [hd] at okd ⊢
              exact ⟨hr, fin K2 glen glow gown g4 J _ _ _ ⟨_, _, hJ, hh2.kOut⟩ haJ okd⟩
          · have q2' : c.kind = 18 := by simpa using q2
            rw [if_neg (fun h => h.1 q2')] at hd
            simp only [walk, walkL, evOp, quietOp, farOp, nov, gd, rho, putT, wr, Nat.reduceAdd, Nat.reduceSub, Bool.false_eq_true, if_true, if_false, reduceIte, reduceCtorEq, walkM, Int.reduceBEq, Int.reduceBNe, Int.reduceLT, Int.reduceLE, decide_true, decide_false, eq_self, Bool.not_true, Bool.not_false, ↓ev_fa, ↓ev_field, ↓ev_load, ↓ev_store, stO_cells, List.all_cons, List.all_nil, Bool.and_self, Bool.and_true, q2, ta12, new, hget_hset', hset_length, and_false, false_and, and_true, true_and, and_self, Nat.reduceEqDiff, Nat.reduceLT, Nat.lt_irrefl, Nat.not_lt_zero, splice, zerosN, fillV, walkB, pureL, V.pure, Nat.reduceMul, Nat.reduceLeDiff, Nat.one_ne_zero, List.take_zero, List.drop_succ_cons, List.drop_zero, List.take_succ_cons, List.replicate_one, List.drop_nil, List.take_nil, Nat.le_refl, Nat.zero_add, Nat.zero_mul, Nat.one_mul, Nat.mul_one, g3, callC]
            refine W.call (p8 K2 x.loc x.line c dv okL ⟨l, b1, k1, hL⟩ hc) p1 p2 p3 p4 p5 ?_
            rintro v J ⟨hr, hl, hrest⟩
            have hk4 : (lineDo c.kind x.line c).1.key = x.line.key := lineDo_key _ _ _
            have hJ : HouseAt J h { S with lines := Go.Mod.putL S.lines c.a (lineDo c.kind x.line c).1 } (putE xs c.a (lineDo c.kind x.line c).1 x.loc) kl := hh2.line_upd (hh.uniq ok) hx hl hrest hk4
            have haJ : Aside K2 J := by
              refine ⟨hrest.len, fun f s o g1 g2 => ?_⟩
              rw [hrest.get f s (hget_lt g1) (aside_ne g1 g2 hL.cells (as_line (by rw [hL.obs.len]; exact okL.n16))) (aside_ne g1 g2 hL.names rfl)]
              exact g1
            have ln : n < J.length := Nat.lt_of_lt_of_le glt haJ.len
            have j4 := haJ.get n 4 _ g4 zc
            obtain ⟨x3, x4, x10, e1, e2, e5, e6, e7, e8, e9, rfl, s3, s4, s10⟩ := hr.cells
            simp only [walk, walkL, evOp, quietOp, farOp, nov, gd, rho, putT, wr, Nat.reduceAdd, Nat.reduceSub, Bool.false_eq_true, if_true, if_false, reduceIte, reduceCtorEq, walkM, Int.reduceBEq, Int.reduceBNe, Int.reduceLT, Int.reduceLE, decide_true, decide_false, eq_self, Bool.not_true, Bool.not_false, ↓ev_fa, ↓ev_field, ↓ev_load, ↓ev_store, stO_cells, List.all_cons, List.all_nil, Bool.and_self, Bool.and_true, ta12, new, hget_hset', hset_length, and_false, false_and, and_true, true_and, and_self, Nat.reduceEqDiff, Nat.reduceLT, Nat.lt_irrefl, Nat.not_lt_zero, splice, zerosN, fillV, walkB, pureL, V.pure, Nat.reduceMul, Nat.reduceLeDiff, Nat.one_ne_zero, List.take_zero, List.drop_succ_cons, List.drop_zero, List.take_succ_cons, List.replicate_one, List.drop_nil, List.take_nil, Nat.le_refl, Nat.zero_add, Nat.zero_mul, Nat.one_mul, Nat.mul_one, ln, j4, s3, s4, s10]
            refine W.done (EndK.ret (res_cell rfl rfl (hget_same (by first | exact F.lt | assumption | (simp only [hset_length]; first | exact F.lt | assumption))) (by rw [rd36]; rfl)) ?_)
            rw [hd] at okd ⊢
            exact ⟨hr, fin K2 glen glow gown g4 J _ _ _ ⟨_, _, hJ, hh2.kOut⟩ haJ okd⟩
end Go.Proofs.Ytebbgmeomkjibaa
end
