/- This file holds in one the texts D4, D5, D6, D7; each says at its head what it proves. -/
import Derived.Test.YtjakoidjbcnhbaaGreatDoorT43
set_option linter.unusedSimpArgs false
set_option linter.unusedVariables false
section
/- dev: Twin of a disk that does not change. -/
set_option maxRecDepth 100000
namespace Go.Proofs.YtjakoidjbcnhbaaGreatDoor
open Go.AM
attribute [local irreducible] U W

def encD (r : Nat → List V) (a : Nat → Int) (d : Nat → List V) (n : Nat) : V :=
  .agg [.islice ((List.range 256).map fun j => .islice (r j) 256 true) 256 false, if n = 0 then .nilslice else .islice (wcells a d n) n false]

theorem dataM_row {r : Nat → List V} {Z : List V} (h : ∀ j, j < 256 → (r j).length = 256) {i : Nat} (hi : i < 256) : ((dataM r Z 256).drop (256 * i)).take 256 = r i := by
  have key : ∀ m, m ≤ 256 → i < m → ∀ T : List V, ((((List.range m).map r).flatten ++ T).drop (256 * i)).take 256 = r i := by
    intro m
    induction m with
    | zero => intro _ h; omega
    | succ m ih =>
      intro hm him T
      rw [List.range_succ, List.map_append, List.flatten_append, List.append_assoc]
      by_cases e : i = m
      · subst e
        have hf := flat_length (r := r) (i := i) (fun j hj => h j (by omega))
        rw [List.drop_append, hf, Nat.sub_self, List.drop_eq_nil_of_le (by rw [hf]; exact Nat.le_refl _)]
        simp only [List.map_cons, List.map_nil, List.flatten_cons, List.flatten_nil, List.append_nil, List.nil_append, List.drop_zero]
        exact List.take_left' (h i (by omega))
      · exact ih (by omega) (by omega) _
  exact key 256 (Nat.le_refl _) hi _

theorem inBlocks_islice (K : Heap) (rv : List V) (fl : Bool) (r : Nat → List V) (hl : rv.length = 256) (hr : ∀ i, i < 256 → ∃ f, rv[i]? = some (.islice (r i) 256 f)) (hrow : ∀ i, i < 256 → Row256 (r i)) : InBlocks K (.islice rv 256 fl) r := by
  have hs : IsSl 1 (.islice rv 256 fl) rv 256 := IsSl.mk (by rw [hl])
  refine ⟨fun g => hs.len Tryz.underlying22 g, ⟨fun i => .iptr rv i, fun i => rv.getD i .bad, fun i hi => ?_, fun i hi G => ?_, fun i hi => ?_⟩, hrow, rfl, rfl, rfl⟩
  · have := hs.at (k := .i64) Tryz.underlying22 sz26 (by decide) (i := (i : Int)) (by omega) (by omega)
    rw [this]
    have e : (i : Int).toNat * 1 = i := by omega
    rw [e]
  · obtain ⟨f, hf⟩ := hr i hi
    show readAt Tryz.prog 26 rv i = _
    rw [rd26, hf]
    simp [List.getD, hf]
  · obtain ⟨f, hf⟩ := hr i hi
    exact ⟨f, by simp [List.getD, hf]⟩

theorem frzL_map {g : Get} {n : Nat} {f h : Nat → V} : ∀ (l : List Nat), (∀ j ∈ l, frz g n (f j) = some (h j)) → frzL (frz g n) (l.map f) = some (l.map h)
  | [], _ => rfl
  | j :: l, e => by
    simp only [List.map_cons, frzL, e j (by simp), frzL_map l (fun k hk => e k (by simp [hk]))]
theorem wcells_frz (g : Get) (m : Nat) (a : Nat → Int) (d : Nat → List V) : ∀ n, frzL (frz g (m + 1)) (wcells a d n) = some (wcells a d n)
  | 0 => rfl
  | n + 1 => by
    have app : ∀ (l k l' k' : List V), frzL (frz g (m + 1)) l = some l' → frzL (frz g (m + 1)) k = some k' → frzL (frz g (m + 1)) (l ++ k) = some (l' ++ k') := by
      intro l
      induction l with
      | nil => intro k l' k' h1 h2; cases h1; exact h2
      | cons x l ih =>
        intro k l' k' h1 h2
        simp only [frzL, List.cons_append] at h1 ⊢
        cases hx : frz g (m + 1) x with
        | none => rw [hx] at h1; cases h1
        | some y =>
          rw [hx] at h1
          cases hl : frzL (frz g (m + 1)) l with
          | none => rw [hl] at h1; cases h1
          | some ys => rw [hl] at h1; cases h1; rw [ih k ys k' hl h2]; rfl
    rw [wcells_succ]
    exact app _ _ _ _ (wcells_frz g m a d n) rfl

theorem twin_frz (k : Nat) (H : Heap) (r : Nat → List V) (Z : List V) (a : Nat → Int) (d : Nat → List V) (n : Nat) (hrow : ∀ i, i < 256 → Row256 (r i)) (hZ : Z.length = 65536) (hg : hget H (k + 1) 20 = some (.cells (dataM r Z 256))) :
    frz (hget H) depth (.agg [.gslice (k + 1) 33 (rowsM (k + 1) 256) 256 1, wOut k a d n]) = some (encD r a d n) := by
  have hr : ∀ j, j < 256 → (r j).length = 256 := fun j hj => (hrow j hj).1
  have hl := dataM_length (r := r) hZ (Nat.le_refl 256) hr
  have row : ∀ j ∈ List.range 256, frz (hget H) 10 (.mslice (k + 1) 20 (256 * j) 256 (some 256) 1) = some (.islice (r j) 256 true) := by
    intro j hj
    have hj' : j < 256 := List.mem_range.1 hj
    have e : ((dataM r Z 256).drop (256 * j)).take (256 * 1) = r j := dataM_row hr hj'
    have := frz_cells (g := hget H) (f := k + 1) (s := 20) (o := 256 * j) (len := 256) (esz := 1) (cap := some 256) (xs := dataM r Z 256) (m := 8) hg (by rw [hl]; omega) (by rw [e]; exact nums_frz _ _ (hrow j hj').2)
    rw [e] at this
    exact this
  have rows := frzL_map (List.range 256) row
  have g1 : frz (hget H) 11 (.gslice (k + 1) 33 (rowsM (k + 1) 256) 256 1) = some (.islice ((List.range 256).map fun j => .islice (r j) 256 true) 256 false) := by
    have e : frz (hget H) 11 (.gslice (k + 1) 33 (rowsM (k + 1) 256) 256 1) = (frzL (frz (hget H) 10) (rowsM (k + 1) 256)).map fun cs => .islice cs 256 false := rfl
    rw [e]
    unfold rowsM
    rw [rows]; rfl
  have g2 : frz (hget H) 11 (wOut k a d n) = some (if n = 0 then .nilslice else .islice (wcells a d n) n false) := by
    unfold wOut
    by_cases h : n = 0
    · simp only [h, if_true]; rfl
    · simp only [h, if_false]
      have e : frz (hget H) 11 (.gslice k 58 (wcells a d n) n 2) = (frzL (frz (hget H) 10) (wcells a d n)).map fun cs => .islice cs n false := rfl
      rw [e, wcells_frz]; rfl
  have e : frz (hget H) depth (.agg [.gslice (k + 1) 33 (rowsM (k + 1) 256) 256 1, wOut k a d n]) = (frzL (frz (hget H) 11) [.gslice (k + 1) 33 (rowsM (k + 1) 256) 256 1, wOut k a d n]).map .agg := rfl
  rw [e]
  simp only [frzL, g1, g2, Option.map_some]
  rfl

theorem twin_fz (rv : List V) (fl : Bool) (r : Nat → List V) (hl : rv.length = 256) (hr : ∀ i, i < 256 → ∃ f, rv[i]? = some (.islice (r i) 256 f)) (hrow : ∀ i, i < 256 → Row256 (r i)) (wv : V) (cs : List V) (n : Nat) (hv : IsSl 2 wv cs n) (hn : n ≤ 4096) (a : Nat → Int) (d : Nat → List V)
    (hwait : ∀ j, j < n → cs[2 * j]? = some (.int .i64 (a j)) ∧ ∃ fl, cs[2 * j + 1]? = some (.islice (d j) 256 fl)) (hdata : ∀ j, j < n → Row256 (d j)) :
    Fz Tryz.prog polD 70 [.agg [.islice rv 256 fl, wv]] fun x => x = encD r a d n := by
  refine Fz.of_cw ((twin_cw [] WF.nil _ wv r (inBlocks_islice [] rv fl r hl hr hrow) cs n hv hn a d hwait hdata).mono ?_)
  rintro rr H' ⟨rfl, rfl⟩
  refine ⟨_, rfl, _, ?_, rfl⟩
  exact twin_frz 0 _ r (zerosN [.int .u8 0] 65536) a d n hrow (zeros_length _ _) rfl
end Go.Proofs.YtjakoidjbcnhbaaGreatDoor
end
section
/- dev: Check, of a disk that does not change. -/
set_option maxRecDepth 100000
namespace Go.Proofs.YtjakoidjbcnhbaaGreatDoor
open Go.AM
attribute [local irreducible] U W

theorem place_fz (a : Int) (h0 : 0 ≤ a) (h1 : a < 256) : Fz Tryz.prog polD 129 [.int .i64 a] fun x => x = .bool true := by
  refine fz_of Tryz.func129 rfl ?_
  have cv : ∀ g, convertV Tryz.prog g 3 139 (.int .i64 a) = some (.val (.int .u64 a) none) := fun g => by
    have w : (IntKind.u64).wrap a = a := by
      simp only [IntKind.wrap, IntKind.bits, IntKind.signed, Bool.false_and, Bool.false_eq_true, if_false]; omega
    simp only [convertV, Tryz.underlying3, Tryz.underlying139, w]
  have c1 : decide (a < 256) = true := decide_eq_true h1
  simp only [tok_int, walk, walkL, evOp, quietOp, farOp, nov, gd, rho, putT, wr, Nat.reduceAdd, Nat.reduceSub, Bool.false_eq_true, if_true, if_false, reduceIte, reduceCtorEq, walkM, Int.reduceBEq, Int.reduceBNe, Int.reduceLT, Int.reduceLE, decide_true, decide_false, eq_self, Bool.not_true, Bool.not_false, ↓ev_fa, ↓ev_field, ↓ev_load, ↓ev_store, stO_cells, List.all_cons, List.all_nil, Bool.and_self, Bool.and_true, Tryz.ntmps129, cv, c1]
  exact W.done (EndZ.ret rfl rfl rfl)

theorem check_cw (rv : List V) (fl : Bool) (r : Nat → List V) (hl : rv.length = 256) (hr : ∀ i, i < 256 → ∃ f, rv[i]? = some (.islice (r i) 256 f)) (wv : V) (cs : List V) (n : Nat) (hv : IsSl 2 wv cs n) (hn : n ≤ 4096) (a : Nat → Int) (d : Nat → List V)
    (hwait : ∀ j, j < n → cs[2 * j]? = some (.int .i64 (a j)) ∧ ∃ fl, cs[2 * j + 1]? = some (.islice (d j) 256 fl)) (ha : ∀ j, j < n → 0 ≤ a j ∧ a j < 256) :
    CW Tryz.prog polD 61 [.agg [.islice rv 256 fl, wv]] [] fun x _ => x = .ret (.int .i64 0) := by
  refine cw_of Tryz.func61 rfl ?_
  have hs : IsSl 1 (.islice rv 256 fl) rv 256 := IsSl.mk (by rw [hl])
  have lw := hv.len Tryz.underlying23
  have wsc : wv.scalar = true := slScalar hv
  have c4 : decide ((n : Int) ≤ 4096) = true := decide_eq_true (by omega)
  have e256 : (((256 : Nat) : Int) == 256) = true := rfl
  have ldr : ∀ i : Nat, i < 256 → ∃ f, ∀ g, ldV Tryz.prog 26 g (.iptr rv ((i : Int).toNat * 1)) = some (.islice (r i) 256 f) := fun i hi => by
    obtain ⟨f, hf⟩ := hr i hi
    refine ⟨f, fun g => ?_⟩
    have e : (i : Int).toNat * 1 = i := by omega
    rw [e]
    show readAt Tryz.prog 26 rv i = _
    rw [rd26, hf]
  simp only [tok_int, walk, walkL, evOp, quietOp, farOp, nov, gd, rho, putT, wr, Nat.reduceAdd, Nat.reduceSub, Bool.false_eq_true, if_true, if_false, reduceIte, reduceCtorEq, walkM, Int.reduceBEq, Int.reduceBNe, Int.reduceLT, Int.reduceLE, decide_true, decide_false, eq_self, Bool.not_true, Bool.not_false, ↓ev_fa, ↓ev_field, ↓ev_load, ↓ev_store, stO_cells, List.all_cons, List.all_nil, Bool.and_self, Bool.and_true, Tryz.ntmps61, ta61, new, hget, hset, fget, fset, List.modify_zero_cons, List.modify_succ_cons, List.modify_cons, Nat.reduceLT, Nat.reduceEqDiff, Nat.lt_irrefl, Nat.not_lt_zero, Nat.lt_add_one, splice, zerosN, fillV, walkB, pureL, V.pure, Nat.reduceMul, Nat.reduceLeDiff, Nat.one_ne_zero, and_self, and_true, true_and, List.take_zero, List.drop_succ_cons, List.drop_zero, List.take_succ_cons, List.replicate_one, Bool.and_self, Bool.and_true, List.drop_nil, List.take_nil, Nat.le_refl, Nat.zero_add, Nat.zero_mul, Nat.one_mul, Nat.mul_one, wsc, lw, c4, e256]
  refine W.ul ?_
  refine W.loopS (kt := [1, 3, 19, 20, 21]) rfl (fun i : Nat => st61_3 (.ptr 0 1 0) (.bool true) (.islice rv 256 fl) (.int .i64 ((256 : Nat) : Int)) (.int .i64 i)) (fun i => [[(1, .cells [.islice rv 256 fl, wv])]]) (fun i => i ≤ 256) (fun i => 256 - i) ?_ 0 (by omega) rfl rfl
  rintro i hi
  simp only [st61_3]
  by_cases h : i < 256
  · have c1 : decide ((i : Int) < ((256 : Nat) : Int)) = true := decide_eq_true (by omega)
    have w1 := wrap_add1 (i := i) (by omega)
    obtain ⟨f, hf⟩ := ldr i h
    have at1 := hs.at (k := .i64) Tryz.underlying22 sz26 (by decide) (i := (i : Int)) (by omega) (by omega)
    simp only [tok_int, walk, walkL, evOp, quietOp, farOp, nov, gd, rho, putT, wr, Nat.reduceAdd, Nat.reduceSub, Bool.false_eq_true, if_true, if_false, reduceIte, reduceCtorEq, walkM, Int.reduceBEq, Int.reduceBNe, Int.reduceLT, Int.reduceLE, decide_true, decide_false, eq_self, Bool.not_true, Bool.not_false, ↓ev_fa, ↓ev_field, ↓ev_load, ↓ev_store, stO_cells, List.all_cons, List.all_nil, Bool.and_self, Bool.and_true, c1, at1, hf, ta61, w1, e256]
    exact W.done ⟨i + 1, rfl, rfl, by omega, by omega⟩
  · have c1 : decide ((i : Int) < ((256 : Nat) : Int)) = false := decide_eq_false (by omega)
    have hi2 : i = 256 := by omega
    subst hi2
    simp only [tok_int, walk, walkL, evOp, quietOp, farOp, nov, gd, rho, putT, wr, Nat.reduceAdd, Nat.reduceSub, Bool.false_eq_true, if_true, if_false, reduceIte, reduceCtorEq, walkM, Int.reduceBEq, Int.reduceBNe, Int.reduceLT, Int.reduceLE, decide_true, decide_false, eq_self, Bool.not_true, Bool.not_false, ↓ev_fa, ↓ev_field, ↓ev_load, ↓ev_store, stO_cells, List.all_cons, List.all_nil, Bool.and_self, Bool.and_true, c1]
    refine W.done ?_
    simp only [tok_int, walk, walkL, evOp, quietOp, farOp, nov, gd, rho, putT, wr, Nat.reduceAdd, Nat.reduceSub, Bool.false_eq_true, if_true, if_false, reduceIte, reduceCtorEq, walkM, Int.reduceBEq, Int.reduceBNe, Int.reduceLT, Int.reduceLE, decide_true, decide_false, eq_self, Bool.not_true, Bool.not_false, ↓ev_fa, ↓ev_field, ↓ev_load, ↓ev_store, stO_cells, List.all_cons, List.all_nil, Bool.and_self, Bool.and_true, ta61, new, hget, hset, fget, fset, List.modify_zero_cons, List.modify_succ_cons, List.modify_cons, Nat.reduceLT, Nat.reduceEqDiff, Nat.lt_irrefl, Nat.not_lt_zero, Nat.lt_add_one, splice, zerosN, fillV, walkB, pureL, V.pure, Nat.reduceMul, Nat.reduceLeDiff, Nat.one_ne_zero, and_self, and_true, true_and, List.take_zero, List.drop_succ_cons, List.drop_zero, List.take_succ_cons, List.replicate_one, Bool.and_self, Bool.and_true, List.drop_nil, List.take_nil, Nat.le_refl, Nat.zero_add, Nat.zero_mul, Nat.one_mul, Nat.mul_one, wsc, lw]
    refine W.ul ?_
    refine W.loop (fun (i : Nat) t H => ∃ F : AM.Frame, maskT [3, 33, 34, 35] t 0 = st61_8 (.bool true) wv (.int .i64 n) (.int .i64 i) ∧ i ≤ n ∧ H = [F] ∧ (F = [(1, .cells [.islice rv 256 fl, wv])] ∨ ∃ x, F = [(1, .cells [.islice rv 256 fl, wv]), (7, .cells x)])) (fun i => n - i) ?_ 0 ⟨_, rfl, by omega, rfl, .inl rfl⟩ rfl
    rintro i t H ⟨F, ht, hi, rfl, hF⟩
    have hd : ([F] : Heap).modify 0 (fdel fun s => [7].contains s) = [[(1, .cells [.islice rv 256 fl, wv])]] := by
      rcases hF with rfl | ⟨x, rfl⟩ <;> rfl
    have wvr : wv.refs (fun f s => f == 0 && [7].contains s) = false := hv.noRefs _
    refine ⟨_, _, forget_drop (kt := [3, 33, 34, 35]) (ds := [7]) rfl ?_ ?_, ?_⟩
    · rw [ht]
      simp only [st61_8, refsL, V.refs, wvr]; simp
    · rw [hd]
      simp only [clearH, clearF, O.refs, refsL, V.refs, wvr]; simp
    rw [ht, hd]
    simp only [st61_8]
    by_cases h : i < n
    · have c1 : decide ((i : Int) < n) = true := decide_eq_true (by omega)
      have w1 := wrap_add1 (i := i) (by omega)
      obtain ⟨e1, fl2, e2⟩ := hwait i h
      have at1 := hv.at (k := .i64) Tryz.underlying23 sz201 (by decide) (i := (i : Int)) (by omega) (by omega)
      have ldw := write_at h hv.1 e1 e2
      obtain ⟨m, rfl, hm⟩ := (place_fz (a i) (ha i h).1 (ha i h).2).op (by rfl) rfl
      have hm' : ∀ s H, _ := fun s H => hm 61 0 s H rfl
      simp only [tok_int, walk, walkL, evOp, quietOp, farOp, nov, gd, rho, putT, wr, Nat.reduceAdd, Nat.reduceSub, Bool.false_eq_true, if_true, if_false, reduceIte, reduceCtorEq, walkM, Int.reduceBEq, Int.reduceBNe, Int.reduceLT, Int.reduceLE, decide_true, decide_false, eq_self, Bool.not_true, Bool.not_false, ↓ev_fa, ↓ev_field, ↓ev_load, ↓ev_store, stO_cells, List.all_cons, List.all_nil, Bool.and_self, Bool.and_true, c1, at1, ldw, ta61, new, hget, hset, fget, fset, List.modify_zero_cons, List.modify_succ_cons, List.modify_cons, Nat.reduceLT, Nat.reduceEqDiff, Nat.lt_irrefl, Nat.not_lt_zero, Nat.lt_add_one, splice, zerosN, fillV, walkB, pureL, V.pure, Nat.reduceMul, Nat.reduceLeDiff, Nat.one_ne_zero, and_self, and_true, true_and, List.take_zero, List.drop_succ_cons, List.drop_zero, List.take_succ_cons, List.replicate_one, Bool.and_self, Bool.and_true, List.drop_nil, List.take_nil, Nat.le_refl, Nat.zero_add, Nat.zero_mul, Nat.one_mul, Nat.mul_one, w1, hm', e256]
      exact W.done ⟨i + 1, ⟨_, rfl, by omega, rfl, .inr ⟨_, rfl⟩⟩, by omega⟩
    · have c1 : decide ((i : Int) < n) = false := decide_eq_false (by omega)
      simp only [tok_int, walk, walkL, evOp, quietOp, farOp, nov, gd, rho, putT, wr, Nat.reduceAdd, Nat.reduceSub, Bool.false_eq_true, if_true, if_false, reduceIte, reduceCtorEq, walkM, Int.reduceBEq, Int.reduceBNe, Int.reduceLT, Int.reduceLE, decide_true, decide_false, eq_self, Bool.not_true, Bool.not_false, ↓ev_fa, ↓ev_field, ↓ev_load, ↓ev_store, stO_cells, List.all_cons, List.all_nil, Bool.and_self, Bool.and_true, c1]
      refine W.done ?_
      simp only [tok_int, walk, walkL, evOp, quietOp, farOp, nov, gd, rho, putT, wr, Nat.reduceAdd, Nat.reduceSub, Bool.false_eq_true, if_true, if_false, reduceIte, reduceCtorEq, walkM, Int.reduceBEq, Int.reduceBNe, Int.reduceLT, Int.reduceLE, decide_true, decide_false, eq_self, Bool.not_true, Bool.not_false, ↓ev_fa, ↓ev_field, ↓ev_load, ↓ev_store, stO_cells, List.all_cons, List.all_nil, Bool.and_self, Bool.and_true]
      exact W.done (End.ret (v := .int .i64 0) rfl rfl)
end Go.Proofs.YtjakoidjbcnhbaaGreatDoor
end
section
/- dev: New; slices.Repeat. -/
set_option maxRecDepth 100000
namespace Go.Proofs.YtjakoidjbcnhbaaGreatDoor
open Go.AM
attribute [local irreducible] U W

theorem mul_run : callN Tryz.prog polD 60 (some 79) [.int .u64 1, .int .u64 256] [] = some (.ret (.tuple [.int .u64 0, .int .u64 256]), []) := by kernel_rfl
theorem mul_fz : Fz Tryz.prog polD 79 [.int .u64 1, .int .u64 256] fun x => x = .tuple [.int .u64 0, .int .u64 256] :=
  ⟨_, _, _, callW_some.2 ⟨60, mul_run⟩, frz_tup (frzL_cons rfl (frzL_cons rfl rfl)), rfl⟩

theorem rep_add (n m : Nat) (x : Int) : List.replicate n x ++ List.replicate m x = List.replicate (n + m) x := by
  induction n with
  | zero => simp
  | succ n ih => rw [List.replicate_succ, List.cons_append, ih, Nat.succ_add, List.replicate_succ]
def reps (n : Nat) : List Int := List.replicate n 256 ++ List.replicate (256 - n) 0
theorem reps_length {n : Nat} (h : n ≤ 256) : (reps n).length = 256 := by simp [reps]; omega
theorem reps_take {n m : Nat} (h : m ≤ n) : (ofInts (reps n)).take m = ofInts (List.replicate m 256) := by
  have : (List.replicate n (256 : Int) ++ List.replicate (256 - n) 0).take m = List.replicate m 256 := by
    rw [List.take_append_of_le_length (by simp; exact h), List.take_replicate]; congr 1; omega
  rw [ofInts, ← List.map_take, reps, this]; rfl
theorem reps_splice {n m : Nat} (h : n + m ≤ 256) : splice (ofInts (reps n)) n (ofInts (List.replicate m 256)) = ofInts (reps (n + m)) := by
  have e : splice (reps n) n (List.replicate m 256) = reps (n + m) := by
    unfold splice reps
    rw [List.take_left' (by simp), List.length_replicate, List.drop_append, List.drop_eq_nil_of_le (by simp), List.length_replicate, List.nil_append, List.drop_replicate, rep_add]
    congr 2; omega
  rw [← e]
  simp [splice, ofInts]

theorem cut_to0 {P : Program} {u e : TypeId} (hu : P.underlying u = some (.slice e)) {q : Nat} (hs : sz P e = some q) {g : Get} {f s o len c n : Nat} {k : IntKind} (h : n ≤ c) (h2 : 0 < c) (h3 : len ≤ c) :
    sliceV P g u (.mslice f s o len (some c) q) none (some (.int k n)) none = some (.mslice f s o n (some c) q) := by
  simp only [sliceV, optInt, hu, hs, if_true, cutM, cuts, Option.getD_none, Option.getD_some]
  rw [if_pos ⟨by omega, by omega, by omega, by omega, by omega, by omega, by simp⟩]
  simp

theorem repeat_fz : Fz Tryz.prog polD 28 [.islice [.int .i64 256] 1 true, .int .i64 256] fun x => x = .islice (ofInts (reps 256)) 256 true := by
  refine fz_of Tryz.func28 rfl ?_
  obtain ⟨m, rfl, hm⟩ := mul_fz.op (by rfl) rfl
  have hm' : ∀ s H, _ := fun s H => hm 28 0 s H rfl
  have cv : ∀ g, convertV Tryz.prog g 3 139 (.int .i64 ((1 : Nat) : Int)) = some (.val (.int .u64 1) none) := fun g => by simp only [convertV, Tryz.underlying3, Tryz.underlying139]; rfl
  have cv2 : ∀ g, convertV Tryz.prog g 3 139 (.int .i64 256) = some (.val (.int .u64 256) none) := fun g => by simp only [convertV, Tryz.underlying3, Tryz.underlying139]; rfl
  have cv3 : ∀ g, convertV Tryz.prog g 139 3 (.int .u64 256) = some (.val (.int .i64 256) none) := fun g => by simp only [convertV, Tryz.underlying3, Tryz.underlying139]; rfl
  have rm : roomy 256 8 = true := by decide
  have hZ : zerosN [V.int .i64 0] 256 = ofInts (reps 0) := by kernel_rfl
  have hZ' : zerosN [V.int .i64 0] (256 : Int).toNat = ofInts (reps 0) := hZ
  have c0 : decide ((0 : Int) > 0) = false := rfl
  have c1 : decide ((256 : Int) > 9223372036854775807) = false := rfl
  have cp0 : copyV Tryz.prog (hget [[(30, .cells (ofInts (reps 0)))]]) 32 (.mslice 0 30 0 256 (some 256) 1) (.islice [.int .i64 256] 1 true) = some (.val (.int .i64 1) (some (0, 30, .cells (ofInts (reps 1))))) := by
    have sc : copySrc (hget [[(30, .cells (ofInts (reps 0)))]]) 1 (.islice [.int .i64 256] 1 true) = some (ofInts (List.replicate 1 256), 1) := rfl
    have hg : hget [[(30, O.cells (ofInts (reps 0)))]] 0 30 = some (.cells (ofInts (reps 0))) := rfl
    simp only [copyV, Tryz.underlying32, sz3, sc, copyTo, hg, if_true]
    have sp := reps_splice (n := 0) (m := 1) (by omega)
    have tk : (ofInts (List.replicate 1 256)).take (min 1 256 * 1) = ofInts (List.replicate 1 256) := rfl
    rw [tk, sp, if_pos ⟨by rw [ofInts_length, reps_length (by omega)]; decide, rfl⟩]
    rfl
  simp only [tok_int, walk, walkL, evOp, quietOp, farOp, nov, gd, rho, putT, wr, Nat.reduceAdd, Nat.reduceSub, Bool.false_eq_true, if_true, if_false, reduceIte, reduceCtorEq, walkM, Int.reduceBEq, Int.reduceBNe, Int.reduceLT, Int.reduceLE, decide_true, decide_false, eq_self, Bool.not_true, Bool.not_false, ↓ev_fa, ↓ev_field, ↓ev_load, ↓ev_store, stO_cells, List.all_cons, List.all_nil, Bool.and_self, Bool.and_true, Tryz.ntmps28, ta28, new, hget, hset, fget, fset, List.modify_zero_cons, List.modify_succ_cons, List.modify_cons, Nat.reduceLT, Nat.reduceEqDiff, Nat.lt_irrefl, Nat.not_lt_zero, Nat.lt_add_one, cv, cv2, cv3, hm', c0, c1, Tryz.underlying32, by64, Int.reduceToNat, rm, and_self, hZ, hZ', bi_copy, cp0, Int.reduceGT]
  refine W.ul ?_
  refine W.loopS (kt := [7, 8]) rfl (fun n : Nat => st28_8 (.mslice 0 30 0 256 (some 256) 1) (.int .i64 n)) (fun n => [[(30, .cells (ofInts (reps n)))]]) (fun n => 1 ≤ n ∧ n ≤ 256) (fun n => 256 - n) ?_ 1 (by omega) rfl rfl
  rintro n ⟨h1, h2⟩
  simp only [st28_8]
  have len := fun g => len_m (P := Tryz.prog) Tryz.underlying32 (f := 0) (s := 30) (o := 0) (len := 256) (esz := 1) (cap := some 256) g
  by_cases h : n < 256
  · have c2 : decide ((n : Int) < ((256 : Nat) : Int)) = true := decide_eq_true (by omega)
    have sl1 : ∀ g, sliceV Tryz.prog g 32 (.mslice 0 30 0 256 (some 256) 1) (some (.int .i64 n)) none none = some (.mslice 0 30 n (256 - n) (some (256 - n)) 1) := fun g => by
      have := cut_from (P := Tryz.prog) (u := 32) Tryz.underlying32 sz3 (f := 0) (s := 30) (o := 0) (len := 256) (c := 256) (w := n) (k := .i64) (by omega) (by omega) g
      rw [this, if_neg (by omega)]; simp
    have sl2 : ∀ g, sliceV Tryz.prog g 32 (.mslice 0 30 0 256 (some 256) 1) none (some (.int .i64 n)) none = some (.mslice 0 30 0 n (some 256) 1) := fun g => cut_to0 Tryz.underlying32 sz3 (by omega) (by omega) (by omega)
    have cp : copyV Tryz.prog (hget [[(30, .cells (ofInts (reps n)))]]) 32 (.mslice 0 30 n (256 - n) (some (256 - n)) 1) (.mslice 0 30 0 n (some 256) 1) = some (.val (.int .i64 (min n (256 - n) : Nat)) (some (0, 30, .cells (ofInts (reps (n + min n (256 - n))))))) := by
      have hg : hget [[(30, O.cells (ofInts (reps n)))]] 0 30 = some (.cells (ofInts (reps n))) := rfl
      have hl : (ofInts (reps n)).length = 256 := by rw [ofInts_length, reps_length h2]
      have sc : copySrc (hget [[(30, .cells (ofInts (reps n)))]]) 1 (.mslice 0 30 0 n (some 256) 1) = some (ofInts (List.replicate n 256), n) := by
        simp only [copySrc, sliceCells, hg, List.drop_zero, Nat.mul_one, reps_take (Nat.le_refl n)]
        rw [if_pos ⟨trivial, by rw [hl]; omega⟩]
      have tk : (ofInts (List.replicate n 256)).take (min n (256 - n) * 1) = ofInts (List.replicate (min n (256 - n)) 256) := by
        rw [Nat.mul_one, ofInts, ← List.map_take, List.take_replicate]
        have : min (min n (256 - n)) n = min n (256 - n) := by omega
        rw [this]; rfl
      simp only [copyV, Tryz.underlying32, sz3, sc, copyTo, hg, if_true, tk]
      rw [reps_splice (by omega), if_pos ⟨by rw [hl]; omega, scalar_ofInts _⟩]
    have w1 : (IntKind.i64).wrap ((n : Int) + ((min n (256 - n) : Nat) : Int)) = ((n + min n (256 - n) : Nat) : Int) := by rw [wrap_i64] <;> omega
    simp only [tok_int, walk, walkL, evOp, quietOp, farOp, nov, gd, rho, putT, wr, Nat.reduceAdd, Nat.reduceSub, Bool.false_eq_true, if_true, if_false, reduceIte, reduceCtorEq, walkM, Int.reduceBEq, Int.reduceBNe, Int.reduceLT, Int.reduceLE, decide_true, decide_false, eq_self, Bool.not_true, Bool.not_false, ↓ev_fa, ↓ev_field, ↓ev_load, ↓ev_store, stO_cells, List.all_cons, List.all_nil, Bool.and_self, Bool.and_true, len, c2, sl1, sl2, bi_copy, cp, new, hget, hset, fget, fset, List.modify_zero_cons, List.modify_succ_cons, List.modify_cons, Nat.reduceLT, Nat.reduceEqDiff, Nat.lt_irrefl, Nat.not_lt_zero, Nat.lt_add_one]
    refine W.opsK (by kernel_rfl) ?_
    simp only [tok_int, walk, walkL, evOp, quietOp, farOp, nov, gd, rho, putT, wr, Nat.reduceAdd, Nat.reduceSub, Bool.false_eq_true, if_true, if_false, reduceIte, reduceCtorEq, walkM, Int.reduceBEq, Int.reduceBNe, Int.reduceLT, Int.reduceLE, decide_true, decide_false, eq_self, Bool.not_true, Bool.not_false, ↓ev_fa, ↓ev_field, ↓ev_load, ↓ev_store, stO_cells, List.all_cons, List.all_nil, Bool.and_self, Bool.and_true, w1]
    exact W.done ⟨n + min n (256 - n), rfl, rfl, by omega, by omega⟩
  · have c2 : decide ((n : Int) < ((256 : Nat) : Int)) = false := decide_eq_false (by omega)
    have hn : n = 256 := by omega
    subst hn
    simp only [tok_int, walk, walkL, evOp, quietOp, farOp, nov, gd, rho, putT, wr, Nat.reduceAdd, Nat.reduceSub, Bool.false_eq_true, if_true, if_false, reduceIte, reduceCtorEq, walkM, Int.reduceBEq, Int.reduceBNe, Int.reduceLT, Int.reduceLE, decide_true, decide_false, eq_self, Bool.not_true, Bool.not_false, ↓ev_fa, ↓ev_field, ↓ev_load, ↓ev_store, stO_cells, List.all_cons, List.all_nil, Bool.and_self, Bool.and_true, len, c2]
    refine W.done ?_
    simp only [tok_int, walk, walkL, evOp, quietOp, farOp, nov, gd, rho, putT, wr, Nat.reduceAdd, Nat.reduceSub, Bool.false_eq_true, if_true, if_false, reduceIte, reduceCtorEq, walkM, Int.reduceBEq, Int.reduceBNe, Int.reduceLT, Int.reduceLE, decide_true, decide_false, eq_self, Bool.not_true, Bool.not_false, ↓ev_fa, ↓ev_field, ↓ev_load, ↓ev_store, stO_cells, List.all_cons, List.all_nil, Bool.and_self, Bool.and_true]
    refine W.done (EndZ.normal (v := .mslice 0 30 0 256 (some 256) 1) rfl ?_ rfl)
    have e : ((ofInts (reps 256)).drop 0).take (256 * 1) = ofInts (reps 256) := by
      rw [List.drop_zero, List.take_of_length_le]; rw [ofInts_length, reps_length (Nat.le_refl _)]; exact Nat.le_refl _
    have := frz_cells (g := hget [[(30, O.cells (ofInts (reps 256)))]]) (f := 0) (s := 30) (o := 0) (len := 256) (esz := 1) (cap := some 256) (m := 10) rfl (by rw [ofInts_length, reps_length (Nat.le_refl _)]; exact Nat.le_refl _) (by rw [e]; exact frzL_ofInts _ _ _)
    rw [e] at this
    exact this
end Go.Proofs.YtjakoidjbcnhbaaGreatDoor
end
section
/- dev: New. -/
set_option maxRecDepth 100000
namespace Go.Proofs.YtjakoidjbcnhbaaGreatDoor
open Go.AM
attribute [local irreducible] U W

theorem zerosN_rep (x : V) (n : Nat) : zerosN [x] n = List.replicate n x := by
  induction n with
  | zero => rfl
  | succ n ih => show [x] ++ zerosN [x] n = _; rw [ih, List.replicate_succ]; rfl
theorem dataM_zeros (x : V) : dataM (fun _ => List.replicate 256 x) (zerosN [x] 65536) 256 = zerosN [x] 65536 := by
  rw [zerosN_rep]
  refine List.eq_replicate_iff.2 ⟨?_, ?_⟩
  · exact dataM_length (by rw [List.length_replicate]) (Nat.le_refl _) (fun j _ => by rw [List.length_replicate])
  · intro b hb
    unfold dataM at hb
    rcases List.mem_append.1 hb with h | h
    · obtain ⟨l, hl, hbl⟩ := List.mem_flatten.1 h
      obtain ⟨j, _, rfl⟩ := List.mem_map.1 hl
      exact (List.mem_replicate.1 hbl).2
    · exact (List.mem_replicate.1 (List.mem_of_mem_drop h)).2
def newV : V := .agg [.islice (List.replicate 256 (.islice (List.replicate 256 (.int .u8 0)) 256 true)) 256 false, .nilslice]
theorem encD_zeros : encD (fun _ => List.replicate 256 (.int .u8 0)) (fun _ => 0) (fun _ => []) 0 = newV := by
  have e : ((List.range 256).map fun j => V.islice ((fun _ => List.replicate 256 (V.int .u8 0)) j) 256 true) = List.replicate 256 (.islice (List.replicate 256 (.int .u8 0)) 256 true) := by
    rw [List.map_const', List.length_range]
  show V.agg [.islice ((List.range 256).map fun j => V.islice ((fun _ => List.replicate 256 (V.int .u8 0)) j) 256 true) 256 false, if 0 = 0 then .nilslice else _] = _
  rw [e, if_pos rfl]
  rfl

theorem new_fz : Fz Tryz.prog polD 7 [] fun x => x = newV := by
  refine fz_of Tryz.func7 rfl ?_
  obtain ⟨m, rfl, hm⟩ := repeat_fz.op (by rfl) rfl
  have hm' : ∀ s H, _ := fun s H => hm 7 0 s H rfl
  have hr : ∀ i, i < 256 → (reps 256)[i]? = some 256 := fun i hi => by
    have : reps 256 = List.replicate 256 256 := by simp only [reps, Nat.sub_self, List.replicate_zero, List.append_nil]
    rw [this, List.getElem?_replicate, if_pos hi]
  have hv : IsInts (.islice (ofInts (reps 256)) 256 true) (reps 256) := by
    have := IsInts.mk (reps 256) true
    rwa [reps_length (Nat.le_refl _)] at this
  have hwF : WF [[(0, O.cells [.nilslice, .nilslice])]] := rfl
  obtain ⟨rr, KK, hcall, rfl, rfl⟩ := cut_cw [[(0, .cells [.nilslice, .nilslice])]] hwF (.islice (ofInts (reps 256)) 256 true) (reps 256) (reps_length (Nat.le_refl _)) hr hv
  have hcall' : callOp polD (callW Tryz.prog polD) 7 0 (some 3) 27 [.islice (ofInts (reps 256)) 256 true] [[(0, .cells [.nilslice, .nilslice])]] = some (.ret (.gslice 1 33 (rowsM 1 256) 256 1), [[(0, .cells [.nilslice, .nilslice])], [(20, .cells (zerosN [.int .u8 0] 65536)), (33, .grow 256)]]) :=
    callOp_thin rfl rfl rfl rfl hcall
  generalize hZ : zerosN [V.int .u8 0] 65536 = Z at hcall'
  generalize hR : rowsM 1 256 = R at hcall'
  generalize hQ : ofInts (reps 256) = Q at hm' hcall'
  have mt1 : polD.mt 7 1 = false := rfl
  simp only [tok_int, walk, walkL, evOp, quietOp, farOp, nov, gd, rho, putT, wr, Nat.reduceAdd, Nat.reduceSub, Bool.false_eq_true, if_true, if_false, reduceIte, reduceCtorEq, walkM, Int.reduceBEq, Int.reduceBNe, Int.reduceLT, Int.reduceLE, decide_true, decide_false, eq_self, Bool.not_true, Bool.not_false, ↓ev_fa, ↓ev_field, ↓ev_load, ↓ev_store, stO_cells, List.all_cons, List.all_nil, Bool.and_self, Bool.and_true, Tryz.ntmps7, ta7, new, hget, hset, fget, fset, List.modify_zero_cons, List.modify_succ_cons, List.modify_cons, Nat.reduceLT, Nat.reduceEqDiff, Nat.lt_irrefl, Nat.not_lt_zero, Nat.lt_add_one, splice, zerosN, fillV, walkB, pureL, V.pure, Nat.reduceMul, Nat.reduceLeDiff, Nat.one_ne_zero, and_self, and_true, true_and, List.take_zero, List.drop_succ_cons, List.drop_zero, List.take_succ_cons, List.replicate_one, Bool.and_self, Bool.and_true, List.drop_nil, List.take_nil, Nat.le_refl, Nat.zero_add, Nat.zero_mul, Nat.one_mul, Nat.mul_one, mt1, hm', hcall', Tryz.underlying32, sz3, zc3]
  refine W.done (EndZ.ret (v := .agg [.gslice 1 33 R 256 1, .nilslice]) ?_ ?_ rfl)
  · exact res_cell2 (f := 0) (s := 0) (o := 0) (xs := [.gslice 1 33 R 256 1, .nilslice]) rfl rfl rfl (by rw [rd25]; rfl)
  rw [← encD_zeros, ← hR]
  refine twin_frz 0 _ (fun _ => List.replicate 256 (.int .u8 0)) (zerosN [.int .u8 0] 65536) (fun _ => 0) (fun _ => []) 0 (fun i _ => ⟨by rw [List.length_replicate], by
    rw [List.all_eq_true]; intro x hx; rw [(List.mem_replicate.1 hx).2]; rfl⟩) (zeros_length _ _) ?_
  rw [dataM_zeros, hZ]; rfl
end Go.Proofs.YtjakoidjbcnhbaaGreatDoor
end
