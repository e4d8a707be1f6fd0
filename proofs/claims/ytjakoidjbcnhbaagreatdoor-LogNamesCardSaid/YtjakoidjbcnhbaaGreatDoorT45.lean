/- This file holds in one the texts D8; each says at its head what it proves. -/
import Derived.Test.YtjakoidjbcnhbaaGreatDoorT24
import Derived.Test.YtjakoidjbcnhbaaGreatDoorT44
set_option linter.unusedSimpArgs false
set_option linter.unusedVariables false
section
/- dev: lasts, of all. -/
set_option maxRecDepth 100000
namespace Go.Proofs.YtjakoidjbcnhbaaGreatDoor
open Go.AM
attribute [local irreducible] U W

def ent (x : Int × V) : V × V := (.int .i64 x.1, .agg [.int .i64 x.1, x.2])
def updL : List (Int × V) → Int → V → List (Int × V)
  | [], k, v => [(k, v)]
  | (k', v') :: r, k, v => if k = k' then (k, v) :: r else (k', v') :: updL r k v
theorem find_L (k : Int) (v : V) : ∀ (L : List (Int × V)) (i0 : Nat),
    (∃ j x, findKey (.int .i64 k) (L.map ent) i0 = some (some (i0 + j, x)) ∧ (L.map ent).set j (ent (k, v)) = (updL L k v).map ent ∧ (updL L k v).length = L.length) ∨
    (findKey (.int .i64 k) (L.map ent) i0 = some none ∧ L.map ent ++ [ent (k, v)] = (updL L k v).map ent ∧ (updL L k v).length = L.length + 1)
  | [], i0 => .inr ⟨rfl, rfl, rfl⟩
  | (k', v') :: r, i0 => by
    have e : findKey (.int .i64 k) (((k', v') :: r).map ent) i0 = (match (if (k == k') then some true else some false : Option Bool) with
      | some true => some (some (i0, (ent (k', v')).2))
      | some false => findKey (.int .i64 k) (r.map ent) (i0 + 1)
      | none => none) := by
      show (match (if IntKind.i64 = IntKind.i64 then some (k == k') else none : Option Bool) with
      | some true => some (some (i0, (ent (k', v')).2))
      | some false => findKey (.int .i64 k) (r.map ent) (i0 + 1)
      | none => none) = _
      rw [if_pos rfl]
      cases (k == k') <;> rfl
    rw [e]
    by_cases h : k = k'
    · subst h
      refine .inl ⟨0, _, by simp; rfl, ?_, ?_⟩
      · simp [updL]
      · simp [updL]
    · have hb : (k == k') = false := by simp [h]
      rw [hb]
      simp only [Bool.false_eq_true, if_false, updL, h]
      rcases find_L k v r (i0 + 1) with ⟨j, x, h1, h2, h3⟩ | ⟨h1, h2, h3⟩
      · refine .inl ⟨j + 1, x, by rw [h1]; congr 3; omega, ?_, ?_⟩
        · simp only [List.map_cons, List.set_cons_succ, h2]
        · simp only [List.length_cons, h3]
      · exact .inr ⟨h1, by simp only [List.map_cons, List.cons_append, h2], by simp only [List.length_cons, h3]⟩

def mapO (L : List (Int × V)) : O := .map (L.map ent) (List.range L.length) L.length
theorem upd_L {g : Get} {f s : Nat} {L : List (Int × V)} (k : Int) (v : V) (hg : g f s = some (mapO L)) :
    updateV Tryz.prog g 274 (.map f s) (.int .i64 k) (.agg [.int .i64 k, v]) = some (.val .bad (some (f, s, mapO (updL L k v)))) := by
  have hk : plainKey (.int .i64) (.int .i64 k) = true := rfl
  unfold mapO at hg
  simp only [updateV, Tryz.underlying274, Tryz.underlying3, hk, if_true, hg]
  rcases find_L k v L 0 with ⟨j, x, h1, h2, h3⟩ | ⟨h1, h2, h3⟩
  · simp only [h1, Nat.zero_add]
    unfold mapO
    rw [h3, ← h2]; rfl
  · simp only [h1]
    unfold mapO
    rw [h3, ← h2, List.range_succ]; rfl

def lastN (a : Nat → Int) (dv : Nat → V) : Nat → List (Int × V)
  | 0 => []
  | i + 1 => updL (lastN a dv i) (a i) (dv i)

theorem all_fz (i : Int) : Fz Tryz.prog polD 112 [.int .i64 i] fun x => x = .bool true := by
  refine fz_of Tryz.func112 rfl ?_
  simp only [tok_int, walk, walkL, evOp, quietOp, farOp, nov, gd, rho, putT, wr, Nat.reduceAdd, Nat.reduceSub, Bool.false_eq_true, if_true, if_false, reduceIte, reduceCtorEq, walkM, Int.reduceBEq, Int.reduceBNe, Int.reduceLT, Int.reduceLE, decide_true, decide_false, eq_self, Bool.not_true, Bool.not_false, ↓ev_fa, ↓ev_field, ↓ev_load, ↓ev_store, stO_cells, List.all_cons, List.all_nil, Bool.and_self, Bool.and_true, Tryz.ntmps112]
  exact W.done (EndZ.ret rfl rfl rfl)

def laF (bv wv : V) (L : List (Int × V)) : AM.Frame := [(2, .cells [bv, wv]), (8, mapO L)]
def laF' (bv wv : V) (y : List V) (L : List (Int × V)) : AM.Frame := [(2, .cells [bv, wv]), (7, .cells y), (8, mapO L)]
theorem write_at' {cs : List V} {n i : Nat} {a : Int} {x : V} (h : i < n) (hl : cs.length = n * 2) (e1 : cs[2 * i]? = some (.int .i64 a)) (e2 : cs[2 * i + 1]? = some x) :
    readAt Tryz.prog 201 cs ((i : Int).toNat * 2) = some (.agg [.int .i64 a, x]) := by
  have e : (i : Int).toNat * 2 = 2 * i := by omega
  rw [e, rd201, if_pos (by omega)]
  obtain ⟨l1, g1⟩ := List.getElem?_eq_some_iff.1 e1
  obtain ⟨l2, g2⟩ := List.getElem?_eq_some_iff.1 e2
  rw [List.drop_eq_getElem_cons l1, List.take_succ_cons, List.drop_eq_getElem_cons l2, List.take_succ_cons, List.take_zero, g1, g2]

theorem updL_mem : ∀ (L : List (Int × V)) (k : Int) (v : V) (x : Int × V), x ∈ updL L k v → x = (k, v) ∨ x ∈ L
  | [], k, v, x, h => .inl (by simpa [updL] using h)
  | (k', v') :: r, k, v, x, h => by
    simp only [updL] at h
    split at h
    · rcases List.mem_cons.1 h with rfl | h
      · exact .inl rfl
      · exact .inr (List.mem_cons_of_mem _ h)
    · rcases List.mem_cons.1 h with rfl | h
      · exact .inr (List.mem_cons_self)
      · rcases updL_mem r k v x h with e | e
        · exact .inl e
        · exact .inr (List.mem_cons_of_mem _ e)
theorem lastN_mem (a : Nat → Int) (dv : Nat → V) : ∀ (i : Nat) (x : Int × V), x ∈ lastN a dv i → ∃ j, j < i ∧ x.2 = dv j
  | 0, x, h => by cases h
  | i + 1, x, h => by
    rcases updL_mem _ _ _ _ h with rfl | h
    · exact ⟨i, by omega, rfl⟩
    · obtain ⟨j, hj, e⟩ := lastN_mem a dv i x h
      exact ⟨j, by omega, e⟩
theorem mapO_refs (p : Nat → Nat → Bool) (L : List (Int × V)) (h : ∀ x ∈ L, x.2.refs p = false) : (mapO L).refs p = false := by
  show refsM p (L.map ent) = false
  induction L with
  | nil => rfl
  | cons x L ih =>
    have h1 := h x (by simp)
    have h2 := ih (fun y hy => h y (by simp [hy]))
    simp only [List.map_cons, refsM, ent, V.refs, refsL, h1, h2]; rfl

theorem orc {p : Nat → Nat → Bool} {xs : List V} : (O.cells xs).refs p = refsL p xs := rfl
theorem lasts_cw (K : Heap) (hw : WF K) (bv wv : V) (hbs : bv.scalar = true) (hbr : bv.refs (fun f _ => Nat.ble K.length f) = false) (cs : List V) (n : Nat) (hv : IsSl 2 wv cs n) (hn : n ≤ 4096) (a : Nat → Int) (dv : Nat → V)
    (hwait : ∀ j, j < n → cs[2 * j]? = some (.int .i64 (a j)) ∧ cs[2 * j + 1]? = some (dv j)) (hdv : ∀ j, j < n → ∃ c fl, dv j = .islice c 256 fl) :
    CW Tryz.prog polD 192 [.agg [bv, wv], .func (.func 112) [] []] K fun r K' => r = .ret (.map K.length 8) ∧ K' = K ++ [laF bv wv (lastN a dv n)] := by
  refine cw_of Tryz.func192 rfl ?_
  have lw := hv.len Tryz.underlying23
  have wsc : wv.scalar = true := slScalar hv
  simp only [tok_int, walk, walkL, evOp, quietOp, farOp, nov, gd, rho, putT, wr, Nat.reduceAdd, Nat.reduceSub, Bool.false_eq_true, if_true, if_false, reduceIte, reduceCtorEq, walkM, Int.reduceBEq, Int.reduceBNe, Int.reduceLT, Int.reduceLE, decide_true, decide_false, eq_self, Bool.not_true, Bool.not_false, ↓ev_fa, ↓ev_field, ↓ev_load, ↓ev_store, stO_cells, List.all_cons, List.all_nil, Bool.and_self, Bool.and_true, Tryz.ntmps192, ta192, new, hget_app, hget_app0, hset_app, hset_app0, hset_zero, hget_zero, hset_succ, hget_succ, fget, fset, Nat.reduceLT, Nat.reduceEqDiff, Nat.lt_irrefl, Nat.not_lt_zero, Nat.lt_add_one, splice, zerosN, fillV, walkB, pureL, V.pure, Nat.reduceMul, Nat.reduceLeDiff, Nat.one_ne_zero, and_self, and_true, true_and, List.take_zero, List.drop_succ_cons, List.drop_zero, List.take_succ_cons, List.replicate_one, Bool.and_self, Bool.and_true, List.drop_nil, List.take_nil, Nat.le_refl, Nat.zero_add, Nat.zero_mul, Nat.one_mul, Nat.mul_one, hbs, wsc, lw, Tryz.underlying274]
  refine W.ul ?_
  refine W.loop (fun (i : Nat) t H => ∃ F : AM.Frame, maskT [1, 5, 10, 11, 12] t 0 = st192_3 (.func (.func 112) [] []) (.map K.length 8) wv (.int .i64 n) (.int .i64 i) ∧ i ≤ n ∧ H = K ++ [F] ∧ (F = laF bv wv (lastN a dv i) ∨ ∃ y, F = laF' bv wv y (lastN a dv i)))
    (fun i => n - i) ?_ 0 ⟨_, rfl, by omega, rfl, .inl rfl⟩ rfl
  rintro i t H ⟨F, ht, hi, rfl, hF⟩
  have hd : (K ++ [F]).modify K.length (fdel fun s => [7].contains s) = K ++ [laF bv wv (lastN a dv i)] := by
    have := modify_app (fdel fun s => [7].contains s) K [F] 0
    refine this.trans ?_
    rcases hF with rfl | ⟨y, rfl⟩ <;> rfl
  have bvr : bv.refs (fun f s => f == K.length && [7].contains s) = false := refs_mono (fun f s h => by simp at h; simp; omega) bv hbr
  have wvr : wv.refs (fun f s => f == K.length && [7].contains s) = false := hv.noRefs _
  have mr : ∀ p : Nat → Nat → Bool, (mapO (lastN a dv i)).refs p = false := fun p => mapO_refs p _ (fun x hx => by
    obtain ⟨j, hj, e⟩ := lastN_mem a dv i x hx
    obtain ⟨c, fl, e2⟩ := hdv j (by omega)
    rw [e, e2]; rfl)
  refine ⟨_, _, forget_drop (kt := [1, 5, 10, 11, 12]) (ds := [7]) rfl ?_ ?_, ?_⟩
  · rw [ht]
    simp only [st192_3, refsL, V.refs, wvr]; simp
  · rw [hd, clearH_append, clear_fresh hw (fun f s h => by simp at h; omega)]
    simp only [laF, clearH, clearF, orc, refsL, bvr, wvr, mr]; rfl
  rw [ht, hd]
  simp only [st192_3]
  by_cases h : i < n
  · have c1 : decide ((i : Int) < n) = true := decide_eq_true (by omega)
    have w1 := wrap_add1 (i := i) (by omega)
    obtain ⟨e1, e2⟩ := hwait i h
    have at1 := hv.at (k := .i64) Tryz.underlying23 sz201 (by decide) (i := (i : Int)) (by omega) (by omega)
    have ldw := write_at' h hv.1 e1 e2
    obtain ⟨m, rfl, hm⟩ := (all_fz (i : Int)).op (by rfl) rfl
    have hm' : ∀ s H, _ := fun s H => hm 192 K.length s H rfl
    have dsc : (dv i).scalar = true := by obtain ⟨c, fl, e⟩ := hdv i h; rw [e]; rfl
    have up := upd_L (g := hget (K ++ [[(2, .cells [bv, wv]), (7, .cells [.int .i64 (a i), dv i]), (8, mapO (lastN a dv i))]])) (f := K.length) (s := 8) (L := lastN a dv i) (a i) (dv i) (by rw [hget_app0]; rfl)
    have eL : updL (lastN a dv i) (a i) (dv i) = lastN a dv (i + 1) := rfl
    rw [eL] at up
    simp only [laF]
    generalize hO : mapO (lastN a dv i) = O1 at up ⊢
    generalize hO2 : mapO (lastN a dv (i + 1)) = O2 at up
    simp only [tok_int, walk, walkL, evOp, quietOp, farOp, nov, gd, rho, putT, wr, Nat.reduceAdd, Nat.reduceSub, Bool.false_eq_true, if_true, if_false, reduceIte, reduceCtorEq, walkM, Int.reduceBEq, Int.reduceBNe, Int.reduceLT, Int.reduceLE, decide_true, decide_false, eq_self, Bool.not_true, Bool.not_false, ↓ev_fa, ↓ev_field, ↓ev_load, ↓ev_store, stO_cells, List.all_cons, List.all_nil, Bool.and_self, Bool.and_true, c1, at1, ldw, ta192, new, hget_app, hget_app0, hset_app, hset_app0, hset_zero, hget_zero, hset_succ, hget_succ, fget, fset, Nat.reduceLT, Nat.reduceEqDiff, Nat.lt_irrefl, Nat.not_lt_zero, Nat.lt_add_one, splice, zerosN, fillV, walkB, pureL, V.pure, Nat.reduceMul, Nat.reduceLeDiff, Nat.one_ne_zero, and_self, and_true, true_and, List.take_zero, List.drop_succ_cons, List.drop_zero, List.take_succ_cons, List.replicate_one, Bool.and_self, Bool.and_true, List.drop_nil, List.take_nil, Nat.le_refl, Nat.zero_add, Nat.zero_mul, Nat.one_mul, Nat.mul_one, w1, hm', dsc, up]
    exact W.done ⟨i + 1, ⟨_, rfl, by omega, rfl, .inr ⟨_, by rw [← hO2]; rfl⟩⟩, by omega⟩
  · have c1 : decide ((i : Int) < n) = false := decide_eq_false (by omega)
    have hi2 : i = n := by omega
    subst hi2
    simp only [tok_int, walk, walkL, evOp, quietOp, farOp, nov, gd, rho, putT, wr, Nat.reduceAdd, Nat.reduceSub, Bool.false_eq_true, if_true, if_false, reduceIte, reduceCtorEq, walkM, Int.reduceBEq, Int.reduceBNe, Int.reduceLT, Int.reduceLE, decide_true, decide_false, eq_self, Bool.not_true, Bool.not_false, ↓ev_fa, ↓ev_field, ↓ev_load, ↓ev_store, stO_cells, List.all_cons, List.all_nil, Bool.and_self, Bool.and_true, c1]
    refine W.done ?_
    simp only [tok_int, walk, walkL, evOp, quietOp, farOp, nov, gd, rho, putT, wr, Nat.reduceAdd, Nat.reduceSub, Bool.false_eq_true, if_true, if_false, reduceIte, reduceCtorEq, walkM, Int.reduceBEq, Int.reduceBNe, Int.reduceLT, Int.reduceLE, decide_true, decide_false, eq_self, Bool.not_true, Bool.not_false, ↓ev_fa, ↓ev_field, ↓ev_load, ↓ev_store, stO_cells, List.all_cons, List.all_nil, Bool.and_self, Bool.and_true]
    refine W.done (End.ret (v := .map K.length 8) rfl ?_)
    rw [popF_keep (by simp [V.refs])]
    exact ⟨rfl, rfl⟩
end Go.Proofs.YtjakoidjbcnhbaaGreatDoor
end
