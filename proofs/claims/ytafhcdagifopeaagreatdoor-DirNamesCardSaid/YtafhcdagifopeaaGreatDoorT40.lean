/- This file holds in one the texts D3, D4; each says at its head what it proves. -/
import Derived.Test.YtafhcdagifopeaaGreatDoorT39
set_option linter.unusedSimpArgs false
set_option linter.unusedVariables false
section
/- dev: Twin. -/
set_option maxRecDepth 100000
namespace Go.Proofs.YtafhcdagifopeaaGreatDoor
open Go.AM
attribute [local irreducible] U W

theorem slScalar {esz n : Nat} {v : V} {cells : List V} (h : IsSl esz v cells n) : v.scalar = true := by
  obtain ⟨_, ⟨rfl, _⟩ | ⟨f, rfl⟩⟩ := h <;> rfl
def rep (i : Nat) : List Int := List.replicate i 256
theorem rep_length (i : Nat) : (rep i).length = i := by simp [rep]
theorem rep_get {n i : Nat} (h : i < n) : (rep n)[i]? = some 256 := by
  unfold rep; rw [List.getElem?_replicate, if_pos h]
theorem rep_succ (i : Nat) : rep (i + 1) = rep i ++ [256] := by simp [rep, List.replicate_succ']
def longsV (k i : Nat) : V := if i = 0 then .nilslice else .gslice k 21 (ofInts (rep i)) i 1
def twF1 (bv wv : V) (i : Nat) : AM.Frame := if i = 0 then [(1, .cells [bv, wv]), (2, .cells [.nilslice, .nilslice])] else [(1, .cells [bv, wv]), (2, .cells [.nilslice, .nilslice]), (21, .grow i)]

theorem app_longs (K : Heap) (bv wv : V) (i : Nat) (hi : i < 256) :
    appendV Tryz.prog (polD.mt 141) K.length (hget (K ++ [twF1 bv wv i])) (some 21) 32 32 (longsV K.length i) (.islice [.int .i64 256] 1 true) =
      some (.val (longsV K.length (i + 1)) (some (K.length, 21, .grow (i + 1)))) := by
  have g21 : hget (K ++ [twF1 bv wv i]) K.length 21 = if i = 0 then none else some (.grow i) := by
    rw [hget_app0]
    show fget (twF1 bv wv i) 21 = _
    unfold twF1; by_cases h : i = 0
    · simp only [h, if_true]; rfl
    · simp only [h, if_false]; rfl
  have sc : ∀ g, sliceCells g 1 (.islice [.int .i64 256] 1 true) = some ([.int .i64 256], 1) := fun g => rfl
  unfold longsV
  rw [if_neg (Nat.succ_ne_zero i), rep_succ]
  by_cases h : i = 0
  · subst h
    simp only [if_true] at g21 ⊢
    rw [app_nil Tryz.underlying32 sz3 by64 zc3 rfl Tryz.underlying32 (sc _) (by decide) (by decide), grown_im rfl rfl g21]
    rfl
  · simp only [h, if_false] at g21 ⊢
    rw [app_more Tryz.underlying32 sz3 by64 zc3 rfl Tryz.underlying32 (sc _) (by decide) (roomy_of (by omega) (by omega)) rfl rfl g21]
    simp [ofInts]

def dataM (r : Nat → List V) (Z : List V) (i : Nat) : List V := ((List.range i).map r).flatten ++ Z.drop (256 * i)
theorem flat_length {r : Nat → List V} : ∀ {i : Nat}, (∀ j, j < i → (r j).length = 256) → ((List.range i).map r).flatten.length = 256 * i
  | 0, _ => rfl
  | i + 1, h => by
    rw [List.range_succ, List.map_append, List.flatten_append, List.length_append, flat_length (fun j hj => h j (by omega))]
    simp [h i (by omega)]; omega
theorem dataM_zero (r : Nat → List V) (Z : List V) : dataM r Z 0 = Z := by simp [dataM]
theorem dataM_length {r : Nat → List V} {Z : List V} (hZ : Z.length = 65536) {i : Nat} (hi : i ≤ 256) (h : ∀ j, j < 256 → (r j).length = 256) : (dataM r Z i).length = 65536 := by
  rw [dataM, List.length_append, flat_length (fun j hj => h j (by omega)), List.length_drop, hZ]; omega
theorem dataM_splice {r : Nat → List V} {Z : List V} (hZ : Z.length = 65536) {i : Nat} (hi : i < 256) (h : ∀ j, j < 256 → (r j).length = 256) : splice (dataM r Z i) (256 * i) (r i) = dataM r Z (i + 1) := by
  have hf := flat_length (r := r) (i := i) (fun j hj => h j (by omega))
  unfold splice dataM
  rw [List.range_succ, List.map_append, List.flatten_append, List.take_left' hf, List.drop_append, hf, List.drop_eq_nil_of_le (by rw [hf, h i hi]; omega), h i hi]
  have e : 256 * i + 256 - 256 * i = 256 := by omega
  rw [e, List.drop_drop]
  have e2 : 256 * i + 256 = 256 * (i + 1) := by omega
  rw [e2]
  simp
theorem zeros_length (n : Nat) (x : V) : (zerosN [x] n).length = n := by
  induction n with
  | zero => rfl
  | succ n ih => simp [zerosN, ih]
theorem rowsM_get (k : Nat) {n i : Nat} (h : i < n) : (rowsM k n)[i]? = some (.mslice k 20 (256 * i) 256 (some 256) 1) := by simp [rowsM, h]
theorem rowsM_pure (k : Nat) : pureL (rowsM k 256) = false := by
  show pureL ((List.range (255 + 1)).map fun j => V.mslice k 20 (256 * j) 256 (some 256) 1) = false
  rw [List.range_succ_eq_map]; rfl
theorem ld_rptr {P : Program} {t : TypeId} {g : Get} {cs : List V} {o : Nat} : ldV P t g (.rptr cs o) = readAt P t cs o := rfl
theorem copy_row {g : Get} {f s o : Nat} {xs c : List V} {fl : Bool} (hc : Row256 c) (hg : g f s = some (.cells xs)) (hl : o + 256 ≤ xs.length) :
    copyV Tryz.prog g 26 (.mslice f s o 256 (some 256) 1) (.islice c 256 fl) = some (.val (.int .i64 256) (some (f, s, .cells (splice xs o c)))) := by
  have sc : copySrc g 1 (.islice c 256 fl) = some (c, 256) := by simp [copySrc, sliceCells, hc.1]
  have tk : c.take (min 256 256 * 1) = c := List.take_of_length_le (by rw [hc.1]; decide)
  simp only [copyV, Tryz.underlying26, sz5, sc, copyTo, hg, if_true, tk, nums_scalar hc.2]
  rw [if_pos ⟨by omega, trivial⟩]
  rfl

theorem dataM_refs {r : Nat → List V} {Z : List V} (p : Nat → Nat → Bool) (h : ∀ j, j < 256 → (r j).all isNum = true) (hz : ∀ p, refsL p Z = false) : refsL p (dataM r Z 256) = false := by
  have app : ∀ a b : List V, refsL p a = false → refsL p b = false → refsL p (a ++ b) = false := by
    intro a b ha hb
    induction a with
    | nil => exact hb
    | cons x a iha => simp only [refsL, List.cons_append, Bool.or_eq_false_iff] at ha ⊢; exact ⟨ha.1, iha ha.2⟩
  have dr : ∀ (l : List V) (m : Nat), refsL p l = false → refsL p (l.drop m) = false := by
    intro l
    induction l with
    | nil => intro m _; simp [refsL]
    | cons x l ih => intro m h; cases m with
      | zero => exact h
      | succ m => simp only [refsL, Bool.or_eq_false_iff] at h; exact ih m h.2
  have fl : ∀ i, i ≤ 256 → refsL p ((List.range i).map r).flatten = false := by
    intro i
    induction i with
    | zero => intro _; rfl
    | succ i ih =>
      intro hi
      rw [List.range_succ, List.map_append, List.flatten_append]
      refine app _ _ (ih (by omega)) ?_
      simp only [List.map_cons, List.map_nil, List.flatten_cons, List.flatten_nil, List.append_nil]
      exact nums_refs p (h i (by omega))
  exact app _ _ (fl 256 (Nat.le_refl _)) (dr _ _ (hz p))
def wcells (a : Nat → Int) (d : Nat → List V) (i : Nat) : List V := ((List.range i).map fun j => [V.int .i64 (a j), .islice (d j) 256 false]).flatten
theorem wcells_succ (a : Nat → Int) (d : Nat → List V) (i : Nat) : wcells a d (i + 1) = wcells a d i ++ [.int .i64 (a i), .islice (d i) 256 false] := by simp [wcells, List.range_succ]
def wOut (k : Nat) (a : Nat → Int) (d : Nat → List V) (i : Nat) : V := if i = 0 then .nilslice else .gslice k 58 (wcells a d i) i 2
theorem wcells_refs (p : Nat → Nat → Bool) (a : Nat → Int) (d : Nat → List V) : ∀ i, refsL p (wcells a d i) = false
  | 0 => rfl
  | i + 1 => by
    rw [wcells_succ]
    have app : ∀ a b : List V, refsL p a = false → refsL p b = false → refsL p (a ++ b) = false := by
      intro a b ha hb
      induction a with
      | nil => exact hb
      | cons x a iha => simp only [refsL, List.cons_append, Bool.or_eq_false_iff] at ha ⊢; exact ⟨ha.1, iha ha.2⟩
    exact app _ _ (wcells_refs p a d i) rfl
theorem wOut_refs (k : Nat) (a : Nat → Int) (d : Nat → List V) (i : Nat) : (wOut k a d i).refs (fun f s => f == k && [9].contains s) = false := by
  unfold wOut; split
  · rfl
  · simp only [V.refs, wcells_refs]; simp
def twF3 (bv wv g o : V) (i : Nat) : AM.Frame := if i = 0 then [(1, .cells [bv, wv]), (2, .cells [g, o]), (21, .grow 256)] else [(1, .cells [bv, wv]), (2, .cells [g, o]), (21, .grow 256), (58, .grow i)]
def twF3' (bv wv g o : V) (y : List V) (i : Nat) : AM.Frame := if i = 0 then [(1, .cells [bv, wv]), (2, .cells [g, o]), (21, .grow 256)] else [(1, .cells [bv, wv]), (2, .cells [g, o]), (9, .cells y), (21, .grow 256), (58, .grow i)]
theorem twF3_del (bv wv g o : V) (y : List V) (i : Nat) : fdel (fun s => [9].contains s) (twF3' bv wv g o y i) = twF3 bv wv g o i := by
  unfold twF3 twF3'; split <;> rfl
theorem write_at {cs : List V} {n i : Nat} {a : Int} {c : List V} {fl : Bool} (h : i < n) (hl : cs.length = n * 2) (e1 : cs[2 * i]? = some (.int .i64 a)) (e2 : cs[2 * i + 1]? = some (.islice c 256 fl)) :
    readAt Tryz.prog 242 cs ((i : Int).toNat * 2) = some (.agg [.int .i64 a, .islice c 256 fl]) := by
  have e : (i : Int).toNat * 2 = 2 * i := by omega
  rw [e, rd242, if_pos (by omega)]
  have g1 := List.getElem?_eq_some_iff.1 e1
  have g2 := List.getElem?_eq_some_iff.1 e2
  obtain ⟨l1, g1⟩ := g1
  obtain ⟨l2, g2⟩ := g2
  rw [List.drop_eq_getElem_cons l1, List.take_succ_cons, List.drop_eq_getElem_cons l2, List.take_succ_cons, List.take_zero, g1, g2]

def twF4 (bv wv g o : V) (y : List V) (i : Nat) : AM.Frame := if i = 0 then [(1, .cells [bv, wv]), (2, .cells [g, o]), (9, .cells y), (21, .grow 256)] else [(1, .cells [bv, wv]), (2, .cells [g, o]), (9, .cells y), (21, .grow 256), (58, .grow i)]
def twF5 (bv wv g o : V) (y : List V) (i : Nat) : AM.Frame := [(1, .cells [bv, wv]), (2, .cells [g, o]), (9, .cells y), (21, .grow 256), (58, .grow (i + 1))]
theorem byW : byt Tryz.prog 242 = some 32 := by kernel_rfl
theorem app_waits (K : Heap) (bv wv g : V) (y : List V) (a : Nat → Int) (d : Nat → List V) (G : Heap) (i : Nat) (hi : i < 4096) :
    appendV Tryz.prog (polD.mt 141) K.length (hget (K ++ twF4 bv wv g (wOut K.length a d i) y i :: G)) (some 58) 23 23 (wOut K.length a d i) (.islice [.int .i64 (a i), .islice (d i) 256 false] 1 true) =
      some (.val (wOut K.length a d (i + 1)) (some (K.length, 58, .grow (i + 1)))) := by
  have g58 : hget (K ++ twF4 bv wv g (wOut K.length a d i) y i :: G) K.length 58 = if i = 0 then none else some (.grow i) := by
    rw [hget_app0]
    show fget (twF4 bv wv g _ y i) 58 = _
    unfold twF4; by_cases h : i = 0
    · simp only [h, if_true]; rfl
    · simp only [h, if_false]; rfl
  have sc : ∀ g, sliceCells g 2 (.islice [.int .i64 (a i), .islice (d i) 256 false] 1 true) = some ([.int .i64 (a i), .islice (d i) 256 false], 1) := fun g => rfl
  unfold wOut at g58 ⊢
  rw [if_neg (Nat.succ_ne_zero i), wcells_succ]
  by_cases h : i = 0
  · subst h
    simp only [if_true] at g58 ⊢
    rw [app_nil Tryz.underlying23 sz242 byW zc242 rfl Tryz.underlying23 (sc _) (by decide) (by decide), grown_im rfl rfl g58]
    rfl
  · simp only [h, if_false] at g58 ⊢
    rw [app_more Tryz.underlying23 sz242 byW zc242 rfl Tryz.underlying23 (sc _) (by decide) (roomy_of (by omega) (by omega)) rfl rfl g58]

theorem res_cell2 {P : Program} {F : Func} {t : List V} {H : Heap} {a : Nat} {T : TypeId} {f s o : Nat} {xs : List V} {v : V} (hF : F.results.toList = [.cell a T]) (ht : t.getD a .bad = .ptr f s o) (hg : hget H f s = some (.cells xs)) (hr : readAt P T xs o = some v) : resV P F t H = some v := by
  have h1 : resOne P t H (.cell a T) = some v := by
    show (match t.getD a .bad with
      | .ptr f s o => (match hget H f s with
        | some (.cells xs) => readAt P T xs o
        | _ => none)
      | _ => none) = _
    rw [ht]
    show (match hget H f s with
        | some (.cells xs) => readAt P T xs o
        | _ => none) = _
    rw [hg]; exact hr
  have h2 : resL P t H [.cell a T] = some [v] := by
    show (match resOne P t H (.cell a T), (some [] : Option (List V)) with
      | some v, some vs => some (v :: vs)
      | _, _ => none) = _
    rw [h1]
  unfold resV
  rw [hF, h2]

theorem twin_cw (K : Heap) (hw : WF K) (bv wv : V) (r : Nat → List V) (hb : InBlocks K bv r) (cs : List V) (n : Nat) (hv : IsSl 2 wv cs n) (hn : n ≤ 4096) (a : Nat → Int) (d : Nat → List V)
    (hwait : ∀ j, j < n → cs[2 * j]? = some (.int .i64 (a j)) ∧ ∃ fl, cs[2 * j + 1]? = some (.islice (d j) 256 fl)) (hdata : ∀ j, j < n → Row256 (d j)) :
    CW Tryz.prog polD 141 [.agg [bv, wv]] K fun rr K' => rr = .ret (.agg [.gslice (K.length + 1) 33 (rowsM (K.length + 1) 256) 256 1, wOut K.length a d n]) ∧
      K' = K ++ [twF3 bv wv (.gslice (K.length + 1) 33 (rowsM (K.length + 1) 256) 256 1) (wOut K.length a d n) n, [(20, .cells (dataM r (zerosN [.int .u8 0] 65536) 256)), (33, .grow 256)]] := by
  generalize hZ : zerosN [V.int .u8 0] 65536 = Z
  refine cw_of Tryz.func141 rfl ?_
  obtain ⟨p, q, hp, hq, hfl⟩ := hb.ex
  have len := hb.len
  have lw := hv.len Tryz.underlying23
  have wsc : wv.scalar = true := slScalar hv
  simp only [tok_int, walk, walkL, evOp, quietOp, farOp, nov, gd, rho, putT, wr, Nat.reduceAdd, Nat.reduceSub, Bool.false_eq_true, if_true, if_false, reduceIte, reduceCtorEq, walkM, Int.reduceBEq, Int.reduceBNe, Int.reduceLT, Int.reduceLE, decide_true, decide_false, eq_self, Bool.not_true, Bool.not_false, ↓ev_fa, ↓ev_field, ↓ev_load, ↓ev_store, stO_cells, List.all_cons, List.all_nil, Bool.and_self, Bool.and_true, Tryz.ntmps141, ta141, new, hget_app, hget_app0, hset_app, hset_app0, hset_zero, hget_zero, hset_succ, hget_succ, fget, fset, Nat.reduceLT, Nat.reduceEqDiff, Nat.lt_irrefl, Nat.not_lt_zero, Nat.lt_add_one, splice, zerosN, fillV, walkB, pureL, V.pure, Nat.reduceMul, Nat.reduceLeDiff, Nat.one_ne_zero, and_self, and_true, true_and, List.take_zero, List.drop_succ_cons, List.drop_zero, List.take_succ_cons, List.replicate_one, Bool.and_self, Bool.and_true, List.drop_nil, List.take_nil, Nat.le_refl, Nat.zero_add, Nat.zero_mul, Nat.one_mul, Nat.mul_one, hb.sc, wsc, len]
  refine W.ul ?_
  refine W.loopS (kt := [1, 2, 3, 11, 12, 13]) rfl (fun i : Nat => st141_3 (.ptr K.length 1 0) (.ptr K.length 2 0) (longsV K.length i) bv (.int .i64 256) (.int .i64 i)) (fun i => K ++ [twF1 bv wv i]) (fun i => i ≤ 256) (fun i => 256 - i) ?_ 0 (by omega) rfl rfl
  rintro i hi
  simp only [st141_3]
  by_cases h : i < 256
  · have c1 : decide ((i : Int) < 256) = true := decide_eq_true (by omega)
    have w1 := wrap_add1 (i := i) (by omega)
    obtain ⟨fl, hfi⟩ := hfl i h
    have hqi := fun G => hq i h G
    rw [hfi] at hqi
    have ap : appendV Tryz.prog (polD.mt 141) K.length (hget (K ++ [twF1 bv wv i])) (some 21) 32 32 (longsV K.length i) (.islice [.int .i64 ((256 : Nat) : Int)] 1 true) = some (.val (longsV K.length (i + 1)) (some (K.length, 21, .grow (i + 1)))) := app_longs K bv wv i h
    have mt20 : polD.mt 141 20 = false := rfl
    have s21 : hset (K ++ [twF1 bv wv i]) K.length 21 (.grow (i + 1)) = K ++ [twF1 bv wv (i + 1)] := by
      rw [hset_app0]; show K ++ [fset (twF1 bv wv i) 21 _] = _
      unfold twF1; rw [if_neg (Nat.succ_ne_zero i)]; split <;> rfl
    simp only [tok_int, walk, walkL, evOp, quietOp, farOp, nov, gd, rho, putT, wr, Nat.reduceAdd, Nat.reduceSub, Bool.false_eq_true, if_true, if_false, reduceIte, reduceCtorEq, walkM, Int.reduceBEq, Int.reduceBNe, Int.reduceLT, Int.reduceLE, decide_true, decide_false, eq_self, Bool.not_true, Bool.not_false, ↓ev_fa, ↓ev_field, ↓ev_load, ↓ev_store, stO_cells, List.all_cons, List.all_nil, Bool.and_self, Bool.and_true, c1, hp i h, hqi, ta141, splice, zerosN, fillV, walkB, pureL, V.pure, Nat.reduceMul, Nat.reduceLeDiff, Nat.one_ne_zero, and_self, and_true, true_and, List.take_zero, List.drop_succ_cons, List.drop_zero, List.take_succ_cons, List.replicate_one, Bool.and_self, Bool.and_true, List.drop_nil, List.take_nil, Nat.le_refl, Nat.zero_add, Nat.zero_mul, Nat.one_mul, Nat.mul_one, w1, mt20, bi_append, ap, s21, Tryz.underlying32]
    exact W.done ⟨i + 1, rfl, rfl, by omega, by omega⟩
  · have c1 : decide ((i : Int) < 256) = false := decide_eq_false (by omega)
    have hi2 : i = 256 := by omega
    subst hi2
    simp only [tok_int, walk, walkL, evOp, quietOp, farOp, nov, gd, rho, putT, wr, Nat.reduceAdd, Nat.reduceSub, Bool.false_eq_true, if_true, if_false, reduceIte, reduceCtorEq, walkM, Int.reduceBEq, Int.reduceBNe, Int.reduceLT, Int.reduceLE, decide_true, decide_false, eq_self, Bool.not_true, Bool.not_false, ↓ev_fa, ↓ev_field, ↓ev_load, ↓ev_store, stO_cells, List.all_cons, List.all_nil, Bool.and_self, Bool.and_true, c1]
    refine W.done ?_
    have hwF : WF (K ++ [twF1 bv wv 256]) := by
      refine WF.app hw ?_
      have b1 : bv.refs (fun f _ => Nat.ble (K.length + 1) f) = false := refs_mono (ble_mono (Nat.le_succ _)) bv hb.refs
      have b2 : wv.refs (fun f _ => Nat.ble (K.length + 1) f) = false := hv.noRefs _
      show clearH (fun f _ => Nat.ble (K.length + 1) f) [[(1, .cells [bv, wv]), (2, .cells [.nilslice, .nilslice]), (21, .grow 256)]] = true
      simp only [clearH, clearF, O.refs, refsL, V.refs, b1, b2]
      rfl
    obtain ⟨rr, KK, hcall, rfl, rfl⟩ := cut_cw (K ++ [twF1 bv wv 256]) hwF (.islice (ofInts (rep 256)) 256 false) (rep 256) (rep_length 256) (fun i hi => rep_get hi) (by
      have := IsInts.mk (rep 256) false
      rwa [rep_length] at this)
    have hk1 : (K ++ [twF1 bv wv 256]).length = K.length + 1 := by simp
    have hcall' : callOp polD (callW Tryz.prog polD) 141 K.length (some 24) 155 [longsV K.length 256] (K ++ [twF1 bv wv 256]) =
        some (.ret (.gslice (K.length + 1) 33 (rowsM (K.length + 1) 256) 256 1), K ++ [twF1 bv wv 256, [(20, .cells (zerosN [.int .u8 0] 65536)), (33, .grow 256)]]) := by
      refine callOp_thin rfl rfl rfl (args' := [.islice (ofInts (rep 256)) 256 false]) ?_ ?_
      · have e : longsV K.length 256 = .gslice K.length 21 (ofInts (rep 256)) 256 1 := rfl
        rw [e]
        have f1 : frz (fun _ _ => none) 12 (.gslice K.length 21 (ofInts (rep 256)) 256 1) = (frzL (frz (fun _ _ => none) 11) (ofInts (rep 256))).map fun cs => .islice cs 256 false := rfl
        show frzL (frz (fun _ _ => none) 12) _ = _
        simp only [frzL, f1, frzL_ofInts (fun _ _ => none) 10, Option.map_some]
      · rw [hk1] at hcall
        rw [hcall]
        simp
    rw [hZ] at hcall'
    have hF : twF1 bv wv 256 = [(1, .cells [bv, wv]), (2, .cells [.nilslice, .nilslice]), (21, .grow 256)] := rfl
    rw [hF] at hcall' ⊢
    simp only [tok_int, walk, walkL, evOp, quietOp, farOp, nov, gd, rho, putT, wr, Nat.reduceAdd, Nat.reduceSub, Bool.false_eq_true, if_true, if_false, reduceIte, reduceCtorEq, walkM, Int.reduceBEq, Int.reduceBNe, Int.reduceLT, Int.reduceLE, decide_true, decide_false, eq_self, Bool.not_true, Bool.not_false, ↓ev_fa, ↓ev_field, ↓ev_load, ↓ev_store, stO_cells, List.all_cons, List.all_nil, Bool.and_self, Bool.and_true, hcall', ta141, new, hget_app, hget_app0, hset_app, hset_app0, hset_zero, hget_zero, hset_succ, hget_succ, fget, fset, Nat.reduceLT, Nat.reduceEqDiff, Nat.lt_irrefl, Nat.not_lt_zero, Nat.lt_add_one, splice, zerosN, fillV, walkB, pureL, V.pure, Nat.reduceMul, Nat.reduceLeDiff, Nat.one_ne_zero, and_self, and_true, true_and, List.take_zero, List.drop_succ_cons, List.drop_zero, List.take_succ_cons, List.replicate_one, Bool.and_self, Bool.and_true, List.drop_nil, List.take_nil, Nat.le_refl, Nat.zero_add, Nat.zero_mul, Nat.one_mul, Nat.mul_one, hb.sc, wsc, len]
    have hZl : Z.length = 65536 := by rw [← hZ]; exact zeros_length _ _
    have hr : ∀ j, j < 256 → (r j).length = 256 := fun j hj => (hb.rows j hj).1
    refine W.ul ?_
    refine W.loopS (kt := [1, 2, 27, 28, 29]) rfl (fun i : Nat => st141_9 (.ptr K.length 1 0) (.ptr K.length 2 0) bv (.int .i64 256) (.int .i64 i))
      (fun i => K ++ [[(1, .cells [bv, wv]), (2, .cells [.gslice (K.length + 1) 33 (rowsM (K.length + 1) 256) 256 1, .nilslice]), (21, .grow 256)], [(20, .cells (dataM r Z i)), (33, .grow 256)]]) (fun i => i ≤ 256) (fun i => 256 - i) ?_ 0 (by omega) rfl (by rw [dataM_zero])
    rintro i hi
    simp only [st141_9]
    by_cases h : i < 256
    · have c1 : decide ((i : Int) < 256) = true := decide_eq_true (by omega)
      have w1 := wrap_add1 (i := i) (by omega)
      obtain ⟨fl, hfi⟩ := hfl i h
      have hqi := fun G => hq i h G
      rw [hfi] at hqi
      have at2 := at_r (P := Tryz.prog) (u := 22) (k := .i64) Tryz.underlying22 sz26 (f := K.length + 1) (s := 33) (len := 256) (i := (i : Int)) (rowsM_pure (K.length + 1)) (by omega) (by omega)
      have gr : (rowsM (K.length + 1) 256)[(i : Int).toNat * 1]? = some (.mslice (K.length + 1) 20 (256 * i) 256 (some 256) 1) := by
        have e : (i : Int).toNat * 1 = i := by omega
        rw [e]; exact rowsM_get _ h
      have hlen := dataM_length (r := r) hZl hi hr
      have cp := fun (g : Get) (hg : g (K.length + 1) 20 = some (.cells (dataM r Z i))) => copy_row (fl := fl) (hb.rows i h) hg (o := 256 * i) (by rw [hlen]; omega)
      have sp := dataM_splice hZl h hr
      rw [sp] at cp
      generalize hD : dataM r Z i = D at cp ⊢
      generalize hD2 : dataM r Z (i + 1) = D2 at cp ⊢
      have cp' := cp (hget (K ++ [[(1, .cells [bv, wv]), (2, .cells [.gslice (K.length + 1) 33 (rowsM (K.length + 1) 256) 256 1, .nilslice]), (21, .grow 256)], [(20, .cells D), (33, .grow 256)]])) (by rw [hget_app]; rfl)
      generalize hR : rowsM (K.length + 1) 256 = R at at2 gr cp' ⊢
      simp only [tok_int, walk, walkL, evOp, quietOp, farOp, nov, gd, rho, putT, wr, Nat.reduceAdd, Nat.reduceSub, Bool.false_eq_true, if_true, if_false, reduceIte, reduceCtorEq, walkM, Int.reduceBEq, Int.reduceBNe, Int.reduceLT, Int.reduceLE, decide_true, decide_false, eq_self, Bool.not_true, Bool.not_false, ↓ev_fa, ↓ev_field, ↓ev_load, ↓ev_store, stO_cells, List.all_cons, List.all_nil, Bool.and_self, Bool.and_true, c1, hp i h, hqi, ta141, new, hget_app, hget_app0, hset_app, hset_app0, hset_zero, hget_zero, hset_succ, hget_succ, fget, fset, Nat.reduceLT, Nat.reduceEqDiff, Nat.lt_irrefl, Nat.not_lt_zero, Nat.lt_add_one, w1, at2, ld_rptr, gr, bi_copy, cp']
      subst hD2
      exact W.done ⟨i + 1, rfl, rfl, by omega, by omega⟩
    have c1 : decide ((i : Int) < 256) = false := decide_eq_false (by omega)
    have hi2 : i = 256 := by omega
    subst hi2
    have hDr : ∀ p : Nat → Nat → Bool, refsL p (dataM r Z 256) = false := fun p => dataM_refs p (fun j hj => (hb.rows j hj).2) (by rw [← hZ]; exact fun q => refsL_zeros _ _ _ rfl)
    generalize hD : dataM r Z 256 = D at hDr ⊢
    have hRr : ∀ p : Nat → Nat → Bool, p (K.length + 1) 20 = false → refsL p (rowsM (K.length + 1) 256) = false := fun p hp => rowsM_refs _ _ _ hp
    generalize hR : rowsM (K.length + 1) 256 = R at hRr ⊢
    simp only [tok_int, walk, walkL, evOp, quietOp, farOp, nov, gd, rho, putT, wr, Nat.reduceAdd, Nat.reduceSub, Bool.false_eq_true, if_true, if_false, reduceIte, reduceCtorEq, walkM, Int.reduceBEq, Int.reduceBNe, Int.reduceLT, Int.reduceLE, decide_true, decide_false, eq_self, Bool.not_true, Bool.not_false, ↓ev_fa, ↓ev_field, ↓ev_load, ↓ev_store, stO_cells, List.all_cons, List.all_nil, Bool.and_self, Bool.and_true, c1]
    refine W.done ?_
    simp only [tok_int, walk, walkL, evOp, quietOp, farOp, nov, gd, rho, putT, wr, Nat.reduceAdd, Nat.reduceSub, Bool.false_eq_true, if_true, if_false, reduceIte, reduceCtorEq, walkM, Int.reduceBEq, Int.reduceBNe, Int.reduceLT, Int.reduceLE, decide_true, decide_false, eq_self, Bool.not_true, Bool.not_false, ↓ev_fa, ↓ev_field, ↓ev_load, ↓ev_store, stO_cells, List.all_cons, List.all_nil, Bool.and_self, Bool.and_true, ta141, new, hget_app, hget_app0, hset_app, hset_app0, hset_zero, hget_zero, hset_succ, hget_succ, fget, fset, Nat.reduceLT, Nat.reduceEqDiff, Nat.lt_irrefl, Nat.not_lt_zero, Nat.lt_add_one, splice, zerosN, fillV, walkB, pureL, V.pure, Nat.reduceMul, Nat.reduceLeDiff, Nat.one_ne_zero, and_self, and_true, true_and, List.take_zero, List.drop_succ_cons, List.drop_zero, List.take_succ_cons, List.replicate_one, Bool.and_self, Bool.and_true, List.drop_nil, List.take_nil, Nat.le_refl, Nat.zero_add, Nat.zero_mul, Nat.one_mul, Nat.mul_one, hb.sc, wsc, len, lw]
    refine W.ul ?_
    refine W.loop (fun (i : Nat) t H => ∃ y : List V, maskT [2, 43, 44, 45] t 0 = st141_14 (.ptr K.length 2 0) wv (.int .i64 n) (.int .i64 i) ∧ i ≤ n ∧ H = K ++ [twF3' bv wv (.gslice (K.length + 1) 33 R 256 1) (wOut K.length a d i) y i, [(20, .cells D), (33, .grow 256)]] ∧ refsL (fun f s => f == K.length && [9].contains s) y = false)
      (fun i => n - i) ?_ 0 ⟨[], rfl, by omega, rfl, rfl⟩ rfl
    rintro i t H ⟨y, ht, hi, rfl, hy⟩
    have hd : (K ++ [twF3' bv wv (.gslice (K.length + 1) 33 R 256 1) (wOut K.length a d i) y i, [(20, .cells D), (33, .grow 256)]]).modify K.length (fdel fun s => [9].contains s) = K ++ [twF3 bv wv (.gslice (K.length + 1) 33 R 256 1) (wOut K.length a d i) i, [(20, .cells D), (33, .grow 256)]] := by
      have := modify_app (fdel fun s => [9].contains s) K [twF3' bv wv (.gslice (K.length + 1) 33 R 256 1) (wOut K.length a d i) y i, [(20, .cells D), (33, .grow 256)]] 0
      exact this.trans (by rw [← twF3_del bv wv _ _ y i]; rfl)
    have bvr : bv.refs (fun f s => f == K.length && [9].contains s) = false := refs_mono (fun f s h => by simp at h; simp; omega) bv hb.refs
    have wvr : wv.refs (fun f s => f == K.length && [9].contains s) = false := hv.noRefs _
    have Rr := hRr (fun f s => f == K.length && [9].contains s) (by simp)
    have Dr := hDr (fun f s => f == K.length && [9].contains s)
    have or_ := wOut_refs K.length a d i
    refine ⟨_, _, forget_drop (kt := [2, 43, 44, 45]) (ds := [9]) rfl ?_ ?_, ?_⟩
    · rw [ht]
      simp only [st141_14, refsL, V.refs, wvr]; simp
    · rw [hd, clearH_append, clear_fresh hw (fun f s h => by simp at h; omega)]
      unfold twF3
      split <;> simp only [clearH, clearF, O.refs, refsL, V.refs, bvr, wvr, Rr, Dr, or_] <;> simp
    rw [ht, hd]
    simp only [st141_14]
    by_cases h : i < n
    · have c1 : decide ((i : Int) < n) = true := decide_eq_true (by omega)
      have w1 := wrap_add1 (i := i) (by omega)
      obtain ⟨e1, fl, e2⟩ := hwait i h
      have at1 := hv.at (k := .i64) Tryz.underlying23 sz242 (by decide) (i := (i : Int)) (by omega) (by omega)
      have ldw := write_at h hv.1 e1 e2
      obtain ⟨m, rfl, hm⟩ := (clone_fz (d i) fl (hdata i h)).op (by rfl) rfl
      have hm' : ∀ s H, _ := fun s H => hm 141 K.length s H rfl
      have n9 : hget (K ++ [twF3 bv wv (.gslice (K.length + 1) 33 R 256 1) (wOut K.length a d i) i, [(20, .cells D), (33, .grow 256)]]) K.length 9 = none := by
        rw [hget_app0]; show fget (twF3 bv wv _ _ i) 9 = none; unfold twF3; split <;> rfl
      have s9 : ∀ x, hset (K ++ [twF3 bv wv (.gslice (K.length + 1) 33 R 256 1) (wOut K.length a d i) i, [(20, .cells D), (33, .grow 256)]]) K.length 9 (.cells x) = K ++ [twF4 bv wv (.gslice (K.length + 1) 33 R 256 1) (wOut K.length a d i) x i, [(20, .cells D), (33, .grow 256)]] := fun x => by
        rw [hset_app0]; show K ++ [fset (twF3 bv wv _ _ i) 9 _, _] = _; unfold twF3 twF4; split <;> rfl
      have s9' : ∀ x z, hset (K ++ [twF4 bv wv (.gslice (K.length + 1) 33 R 256 1) (wOut K.length a d i) x i, [(20, .cells D), (33, .grow 256)]]) K.length 9 (.cells z) = K ++ [twF4 bv wv (.gslice (K.length + 1) 33 R 256 1) (wOut K.length a d i) z i, [(20, .cells D), (33, .grow 256)]] := fun x z => by
        rw [hset_app0]; show K ++ [fset (twF4 bv wv _ _ x i) 9 _, _] = _; unfold twF4; split <;> rfl
      have g9 : ∀ x, hget (K ++ [twF4 bv wv (.gslice (K.length + 1) 33 R 256 1) (wOut K.length a d i) x i, [(20, .cells D), (33, .grow 256)]]) K.length 9 = some (.cells x) := fun x => by
        rw [hget_app0]; show fget (twF4 bv wv _ _ x i) 9 = _; unfold twF4; split <;> rfl
      have g2 : ∀ x, hget (K ++ [twF4 bv wv (.gslice (K.length + 1) 33 R 256 1) (wOut K.length a d i) x i, [(20, .cells D), (33, .grow 256)]]) K.length 2 = some (.cells [.gslice (K.length + 1) 33 R 256 1, wOut K.length a d i]) := fun x => by
        rw [hget_app0]; show fget (twF4 bv wv _ _ x i) 2 = _; unfold twF4; split <;> rfl
      have ap := app_waits K bv wv (.gslice (K.length + 1) 33 R 256 1) [.int .i64 (a i), .islice (d i) 256 fl] a d [[(20, .cells D), (33, .grow 256)]] i (by omega)
      have s58 : ∀ x, hset (K ++ [twF4 bv wv (.gslice (K.length + 1) 33 R 256 1) (wOut K.length a d i) x i, [(20, .cells D), (33, .grow 256)]]) K.length 58 (.grow (i + 1)) = K ++ [twF5 bv wv (.gslice (K.length + 1) 33 R 256 1) (wOut K.length a d i) x i, [(20, .cells D), (33, .grow 256)]] := fun x => by
        rw [hset_app0]; show K ++ [fset (twF4 bv wv _ _ x i) 58 _, _] = _; unfold twF4 twF5; split <;> rfl
      have g2' : ∀ x, hget (K ++ [twF5 bv wv (.gslice (K.length + 1) 33 R 256 1) (wOut K.length a d i) x i, [(20, .cells D), (33, .grow 256)]]) K.length 2 = some (.cells [.gslice (K.length + 1) 33 R 256 1, wOut K.length a d i]) := fun x => by
        rw [hget_app0]; rfl
      have s2 : ∀ x o, hset (K ++ [twF5 bv wv (.gslice (K.length + 1) 33 R 256 1) (wOut K.length a d i) x i, [(20, .cells D), (33, .grow 256)]]) K.length 2 (.cells [.gslice (K.length + 1) 33 R 256 1, o]) = K ++ [twF3' bv wv (.gslice (K.length + 1) 33 R 256 1) o x (i + 1), [(20, .cells D), (33, .grow 256)]] := fun x o => by
        rw [hset_app0]; rfl
      have mt57 : polD.mt 141 57 = false := rfl
      have scw : (wOut K.length a d (i + 1)).scalar = true := by unfold wOut; rw [if_neg (Nat.succ_ne_zero i)]; rfl
      have scw0 : (wOut K.length a d i).scalar = true := by unfold wOut; split <;> rfl
      have wcl : (wOut K.length a d (i + 1)).cells = some [wOut K.length a d (i + 1)] := by unfold wOut; rw [if_neg (Nat.succ_ne_zero i)]; rfl
      simp only [tok_int, walk, walkL, evOp, quietOp, farOp, nov, gd, rho, putT, wr, Nat.reduceAdd, Nat.reduceSub, Bool.false_eq_true, if_true, if_false, reduceIte, reduceCtorEq, walkM, Int.reduceBEq, Int.reduceBNe, Int.reduceLT, Int.reduceLE, decide_true, decide_false, eq_self, Bool.not_true, Bool.not_false, ↓ev_fa, ↓ev_field, ↓ev_load, ↓ev_store, stO_cells, List.all_cons, List.all_nil, Bool.and_self, Bool.and_true, c1, at1, ldw, ta141, splice, zerosN, fillV, walkB, pureL, V.pure, Nat.reduceMul, Nat.reduceLeDiff, Nat.one_ne_zero, and_self, and_true, true_and, List.take_zero, List.drop_succ_cons, List.drop_zero, List.take_succ_cons, List.replicate_one, Bool.and_self, Bool.and_true, List.drop_nil, List.take_nil, Nat.le_refl, Nat.zero_add, Nat.zero_mul, Nat.one_mul, Nat.mul_one, w1, wcl, new, n9, s9, s9', g9, g2, hm', mt57, bi_append, ap, s58, g2', s2, scw, scw0, Tryz.underlying23]
      refine W.opsK (by kernel_rfl) ?_
      simp only [tok_int, walk, walkL, evOp, quietOp, farOp, nov, gd, rho, putT, wr, Nat.reduceAdd, Nat.reduceSub, Bool.false_eq_true, if_true, if_false, reduceIte, reduceCtorEq, walkM, Int.reduceBEq, Int.reduceBNe, Int.reduceLT, Int.reduceLE, decide_true, decide_false, eq_self, Bool.not_true, Bool.not_false, ↓ev_fa, ↓ev_field, ↓ev_load, ↓ev_store, stO_cells, List.all_cons, List.all_nil, Bool.and_self, Bool.and_true, w1]
      exact W.done ⟨i + 1, ⟨_, rfl, by omega, rfl, by simp [refsL, V.refs]⟩, by omega⟩
    · have c1 : decide ((i : Int) < n) = false := decide_eq_false (by omega)
      have hi2 : i = n := by omega
      subst hi2
      simp only [tok_int, walk, walkL, evOp, quietOp, farOp, nov, gd, rho, putT, wr, Nat.reduceAdd, Nat.reduceSub, Bool.false_eq_true, if_true, if_false, reduceIte, reduceCtorEq, walkM, Int.reduceBEq, Int.reduceBNe, Int.reduceLT, Int.reduceLE, decide_true, decide_false, eq_self, Bool.not_true, Bool.not_false, ↓ev_fa, ↓ev_field, ↓ev_load, ↓ev_store, stO_cells, List.all_cons, List.all_nil, Bool.and_self, Bool.and_true, c1]
      refine W.done ?_
      simp only [tok_int, walk, walkL, evOp, quietOp, farOp, nov, gd, rho, putT, wr, Nat.reduceAdd, Nat.reduceSub, Bool.false_eq_true, if_true, if_false, reduceIte, reduceCtorEq, walkM, Int.reduceBEq, Int.reduceBNe, Int.reduceLT, Int.reduceLE, decide_true, decide_false, eq_self, Bool.not_true, Bool.not_false, ↓ev_fa, ↓ev_field, ↓ev_load, ↓ev_store, stO_cells, List.all_cons, List.all_nil, Bool.and_self, Bool.and_true]
      refine W.done (End.ret (v := .agg [.gslice (K.length + 1) 33 R 256 1, wOut K.length a d i]) ?_ ?_)
      · refine res_cell2 (xs := [.gslice (K.length + 1) 33 R 256 1, wOut K.length a d i]) rfl rfl ?_ (by rw [rd25]; rfl)
        rw [hget_app0]; show fget (twF3 bv wv _ _ i) 2 = _; unfold twF3; split <;> rfl
      · rw [popF_keep (by simp [V.refs, refsL])]
        exact ⟨rfl, by rw [← hR, ← hD]⟩
end Go.Proofs.YtafhcdagifopeaaGreatDoor
end
section
/- dev: Twin of a disk that does not change. -/
set_option maxRecDepth 100000
namespace Go.Proofs.YtafhcdagifopeaaGreatDoor
open Go.AM
attribute [local irreducible] U W

def encD (r : Nat → List V) (a : Nat → Int) (d : Nat → List V) (n : Nat) : V :=
  .agg [.islice ((List.range 256).map fun j => .islice (r j) 256 true) 256 false, if n = 0 then .nilslice else .islice (wcells a d n) n false]

theorem dataM_row {r : Nat → List V} {Z : List V} (h : ∀ j, j < 256 → (r j).length = 256) {i : Nat} (hi : i < 256) : ((dataM r Z 256).drop (256 * i)).take 256 = r i := by
  have key : ∀ m, m ≤ 256 → i < m → ∀ T : List V, ((((List.range m).map r).flatten ++ T).drop (256 * i)).take 256 = r i := by
    intro m
    induction m with
    | zero => intro _ h; omega
    | succ m ih =>
      intro hm him T
      rw [List.range_succ, List.map_append, List.flatten_append, List.append_assoc]
      by_cases e : i = m
      · subst e
        have hf := flat_length (r := r) (i := i) (fun j hj => h j (by omega))
        rw [List.drop_append, hf, Nat.sub_self, List.drop_eq_nil_of_le (by rw [hf]; exact Nat.le_refl _)]
        simp only [List.map_cons, List.map_nil, List.flatten_cons, List.flatten_nil, List.append_nil, List.nil_append, List.drop_zero]
        exact List.take_left' (h i (by omega))
      · exact ih (by omega) (by omega) _
  exact key 256 (Nat.le_refl _) hi _

theorem inBlocks_islice (K : Heap) (rv : List V) (fl : Bool) (r : Nat → List V) (hl : rv.length = 256) (hr : ∀ i, i < 256 → ∃ f, rv[i]? = some (.islice (r i) 256 f)) (hrow : ∀ i, i < 256 → Row256 (r i)) : InBlocks K (.islice rv 256 fl) r := by
  have hs : IsSl 1 (.islice rv 256 fl) rv 256 := IsSl.mk (by rw [hl])
  refine ⟨fun g => hs.len Tryz.underlying22 g, ⟨fun i => .iptr rv i, fun i => rv.getD i .bad, fun i hi => ?_, fun i hi G => ?_, fun i hi => ?_⟩, hrow, rfl, rfl, rfl⟩
  · have := hs.at (k := .i64) Tryz.underlying22 sz26 (by decide) (i := (i : Int)) (by omega) (by omega)
    rw [this]
    have e : (i : Int).toNat * 1 = i := by omega
    rw [e]
  · obtain ⟨f, hf⟩ := hr i hi
    show readAt Tryz.prog 26 rv i = _
    rw [rd26, hf]
    simp [List.getD, hf]
  · obtain ⟨f, hf⟩ := hr i hi
    exact ⟨f, by simp [List.getD, hf]⟩

theorem frzL_map {g : Get} {n : Nat} {f h : Nat → V} : ∀ (l : List Nat), (∀ j ∈ l, frz g n (f j) = some (h j)) → frzL (frz g n) (l.map f) = some (l.map h)
  | [], _ => rfl
  | j :: l, e => by
    simp only [List.map_cons, frzL, e j (by simp), frzL_map l (fun k hk => e k (by simp [hk]))]
theorem wcells_frz (g : Get) (m : Nat) (a : Nat → Int) (d : Nat → List V) : ∀ n, frzL (frz g (m + 1)) (wcells a d n) = some (wcells a d n)
  | 0 => rfl
  | n + 1 => by
    have app : ∀ (l k l' k' : List V), frzL (frz g (m + 1)) l = some l' → frzL (frz g (m + 1)) k = some k' → frzL (frz g (m + 1)) (l ++ k) = some (l' ++ k') := by
      intro l
      induction l with
      | nil => intro k l' k' h1 h2; cases h1; exact h2
      | cons x l ih =>
        intro k l' k' h1 h2
        simp only [frzL, List.cons_append] at h1 ⊢
        cases hx : frz g (m + 1) x with
        | none => rw [hx] at h1; cases h1
        | some y =>
          rw [hx] at h1
          cases hl : frzL (frz g (m + 1)) l with
          | none => rw [hl] at h1; cases h1
          | some ys => rw [hl] at h1; cases h1; rw [ih k ys k' hl h2]; rfl
    rw [wcells_succ]
    exact app _ _ _ _ (wcells_frz g m a d n) rfl

theorem twin_frz (k : Nat) (H : Heap) (r : Nat → List V) (Z : List V) (a : Nat → Int) (d : Nat → List V) (n : Nat) (hrow : ∀ i, i < 256 → Row256 (r i)) (hZ : Z.length = 65536) (hg : hget H (k + 1) 20 = some (.cells (dataM r Z 256))) :
    frz (hget H) depth (.agg [.gslice (k + 1) 33 (rowsM (k + 1) 256) 256 1, wOut k a d n]) = some (encD r a d n) := by
  have hr : ∀ j, j < 256 → (r j).length = 256 := fun j hj => (hrow j hj).1
  have hl := dataM_length (r := r) hZ (Nat.le_refl 256) hr
  have row : ∀ j ∈ List.range 256, frz (hget H) 10 (.mslice (k + 1) 20 (256 * j) 256 (some 256) 1) = some (.islice (r j) 256 true) := by
    intro j hj
    have hj' : j < 256 := List.mem_range.1 hj
    have e : ((dataM r Z 256).drop (256 * j)).take (256 * 1) = r j := dataM_row hr hj'
    have := frz_cells (g := hget H) (f := k + 1) (s := 20) (o := 256 * j) (len := 256) (esz := 1) (cap := some 256) (xs := dataM r Z 256) (m := 8) hg (by rw [hl]; omega) (by rw [e]; exact nums_frz _ _ (hrow j hj').2)
    rw [e] at this
    exact this
  have rows := frzL_map (List.range 256) row
  have g1 : frz (hget H) 11 (.gslice (k + 1) 33 (rowsM (k + 1) 256) 256 1) = some (.islice ((List.range 256).map fun j => .islice (r j) 256 true) 256 false) := by
    have e : frz (hget H) 11 (.gslice (k + 1) 33 (rowsM (k + 1) 256) 256 1) = (frzL (frz (hget H) 10) (rowsM (k + 1) 256)).map fun cs => .islice cs 256 false := rfl
    rw [e]
    unfold rowsM
    rw [rows]; rfl
  have g2 : frz (hget H) 11 (wOut k a d n) = some (if n = 0 then .nilslice else .islice (wcells a d n) n false) := by
    unfold wOut
    by_cases h : n = 0
    · simp only [h, if_true]; rfl
    · simp only [h, if_false]
      have e : frz (hget H) 11 (.gslice k 58 (wcells a d n) n 2) = (frzL (frz (hget H) 10) (wcells a d n)).map fun cs => .islice cs n false := rfl
      rw [e, wcells_frz]; rfl
  have e : frz (hget H) depth (.agg [.gslice (k + 1) 33 (rowsM (k + 1) 256) 256 1, wOut k a d n]) = (frzL (frz (hget H) 11) [.gslice (k + 1) 33 (rowsM (k + 1) 256) 256 1, wOut k a d n]).map .agg := rfl
  rw [e]
  simp only [frzL, g1, g2, Option.map_some]
  rfl

theorem twin_fz (rv : List V) (fl : Bool) (r : Nat → List V) (hl : rv.length = 256) (hr : ∀ i, i < 256 → ∃ f, rv[i]? = some (.islice (r i) 256 f)) (hrow : ∀ i, i < 256 → Row256 (r i)) (wv : V) (cs : List V) (n : Nat) (hv : IsSl 2 wv cs n) (hn : n ≤ 4096) (a : Nat → Int) (d : Nat → List V)
    (hwait : ∀ j, j < n → cs[2 * j]? = some (.int .i64 (a j)) ∧ ∃ fl, cs[2 * j + 1]? = some (.islice (d j) 256 fl)) (hdata : ∀ j, j < n → Row256 (d j)) :
    Fz Tryz.prog polD 141 [.agg [.islice rv 256 fl, wv]] fun x => x = encD r a d n := by
  refine Fz.of_cw ((twin_cw [] WF.nil _ wv r (inBlocks_islice [] rv fl r hl hr hrow) cs n hv hn a d hwait hdata).mono ?_)
  rintro rr H' ⟨rfl, rfl⟩
  refine ⟨_, rfl, _, ?_, rfl⟩
  exact twin_frz 0 _ r (zerosN [.int .u8 0] 65536) a d n hrow (zeros_length _ _) rfl
end Go.Proofs.YtafhcdagifopeaaGreatDoor
end
