/- This file holds in one the texts D5, D6, D7, D8; each says at its head what it proves. -/
import Derived.Test.YtafhcdagifopeaaGreatDoorT22
import Derived.Test.YtafhcdagifopeaaGreatDoorT40
set_option linter.unusedSimpArgs false
set_option linter.unusedVariables false
section
/- dev: Check, of a disk that does not change. -/
set_option maxRecDepth 100000
namespace Go.Proofs.YtafhcdagifopeaaGreatDoor
open Go.AM
attribute [local irreducible] U W

theorem place_fz (a : Int) (h0 : 0 ≤ a) (h1 : a < 256) : Fz Tryz.prog polD 184 [.int .i64 a] fun x => x = .bool true := by
  refine fz_of Tryz.func184 rfl ?_
  have cv : ∀ g, convertV Tryz.prog g 3 203 (.int .i64 a) = some (.val (.int .u64 a) none) := fun g => by
    have w : (IntKind.u64).wrap a = a := by
      simp only [IntKind.wrap, IntKind.bits, IntKind.signed, Bool.false_and, Bool.false_eq_true, if_false]; omega
    simp only [convertV, Tryz.underlying3, Tryz.underlying203, w]
  have c1 : decide (a < 256) = true := decide_eq_true h1
  simp only [tok_int, walk, walkL, evOp, quietOp, farOp, nov, gd, rho, putT, wr, Nat.reduceAdd, Nat.reduceSub, Bool.false_eq_true, if_true, if_false, reduceIte, reduceCtorEq, walkM, Int.reduceBEq, Int.reduceBNe, Int.reduceLT, Int.reduceLE, decide_true, decide_false, eq_self, Bool.not_true, Bool.not_false, ↓ev_fa, ↓ev_field, ↓ev_load, ↓ev_store, stO_cells, List.all_cons, List.all_nil, Bool.and_self, Bool.and_true, Tryz.ntmps184, cv, c1]
  exact W.done (EndZ.ret rfl rfl rfl)

theorem check_cw (rv : List V) (fl : Bool) (r : Nat → List V) (hl : rv.length = 256) (hr : ∀ i, i < 256 → ∃ f, rv[i]? = some (.islice (r i) 256 f)) (wv : V) (cs : List V) (n : Nat) (hv : IsSl 2 wv cs n) (hn : n ≤ 4096) (a : Nat → Int) (d : Nat → List V)
    (hwait : ∀ j, j < n → cs[2 * j]? = some (.int .i64 (a j)) ∧ ∃ fl, cs[2 * j + 1]? = some (.islice (d j) 256 fl)) (ha : ∀ j, j < n → 0 ≤ a j ∧ a j < 256) :
    CW Tryz.prog polD 126 [.agg [.islice rv 256 fl, wv]] [] fun x _ => x = .ret (.int .i64 0) := by
  refine cw_of Tryz.func126 rfl ?_
  have hs : IsSl 1 (.islice rv 256 fl) rv 256 := IsSl.mk (by rw [hl])
  have lw := hv.len Tryz.underlying23
  have wsc : wv.scalar = true := slScalar hv
  have c4 : decide ((n : Int) ≤ 4096) = true := decide_eq_true (by omega)
  have e256 : (((256 : Nat) : Int) == 256) = true := rfl
  have ldr : ∀ i : Nat, i < 256 → ∃ f, ∀ g, ldV Tryz.prog 26 g (.iptr rv ((i : Int).toNat * 1)) = some (.islice (r i) 256 f) := fun i hi => by
    obtain ⟨f, hf⟩ := hr i hi
    refine ⟨f, fun g => ?_⟩
    have e : (i : Int).toNat * 1 = i := by omega
    rw [e]
    show readAt Tryz.prog 26 rv i = _
    rw [rd26, hf]
  simp only [tok_int, walk, walkL, evOp, quietOp, farOp, nov, gd, rho, putT, wr, Nat.reduceAdd, Nat.reduceSub, Bool.false_eq_true, if_true, if_false, reduceIte, reduceCtorEq, walkM, Int.reduceBEq, Int.reduceBNe, Int.reduceLT, Int.reduceLE, decide_true, decide_false, eq_self, Bool.not_true, Bool.not_false, ↓ev_fa, ↓ev_field, ↓ev_load, ↓ev_store, stO_cells, List.all_cons, List.all_nil, Bool.and_self, Bool.and_true, Tryz.ntmps126, ta126, new, hget, hset, fget, fset, List.modify_zero_cons, List.modify_succ_cons, List.modify_cons, Nat.reduceLT, Nat.reduceEqDiff, Nat.lt_irrefl, Nat.not_lt_zero, Nat.lt_add_one, splice, zerosN, fillV, walkB, pureL, V.pure, Nat.reduceMul, Nat.reduceLeDiff, Nat.one_ne_zero, and_self, and_true, true_and, List.take_zero, List.drop_succ_cons, List.drop_zero, List.take_succ_cons, List.replicate_one, Bool.and_self, Bool.and_true, List.drop_nil, List.take_nil, Nat.le_refl, Nat.zero_add, Nat.zero_mul, Nat.one_mul, Nat.mul_one, wsc, lw, c4, e256]
  refine W.ul ?_
  refine W.loopS (kt := [1, 3, 19, 20, 21]) rfl (fun i : Nat => st126_3 (.ptr 0 1 0) (.bool true) (.islice rv 256 fl) (.int .i64 ((256 : Nat) : Int)) (.int .i64 i)) (fun i => [[(1, .cells [.islice rv 256 fl, wv])]]) (fun i => i ≤ 256) (fun i => 256 - i) ?_ 0 (by omega) rfl rfl
  rintro i hi
  simp only [st126_3]
  by_cases h : i < 256
  · have c1 : decide ((i : Int) < ((256 : Nat) : Int)) = true := decide_eq_true (by omega)
    have w1 := wrap_add1 (i := i) (by omega)
    obtain ⟨f, hf⟩ := ldr i h
    have at1 := hs.at (k := .i64) Tryz.underlying22 sz26 (by decide) (i := (i : Int)) (by omega) (by omega)
    simp only [tok_int, walk, walkL, evOp, quietOp, farOp, nov, gd, rho, putT, wr, Nat.reduceAdd, Nat.reduceSub, Bool.false_eq_true, if_true, if_false, reduceIte, reduceCtorEq, walkM, Int.reduceBEq, Int.reduceBNe, Int.reduceLT, Int.reduceLE, decide_true, decide_false, eq_self, Bool.not_true, Bool.not_false, ↓ev_fa, ↓ev_field, ↓ev_load, ↓ev_store, stO_cells, List.all_cons, List.all_nil, Bool.and_self, Bool.and_true, c1, at1, hf, ta126, w1, e256]
    exact W.done ⟨i + 1, rfl, rfl, by omega, by omega⟩
  · have c1 : decide ((i : Int) < ((256 : Nat) : Int)) = false := decide_eq_false (by omega)
    have hi2 : i = 256 := by omega
    subst hi2
    simp only [tok_int, walk, walkL, evOp, quietOp, farOp, nov, gd, rho, putT, wr, Nat.reduceAdd, Nat.reduceSub, Bool.false_eq_true, if_true, if_false, reduceIte, reduceCtorEq, walkM, Int.reduceBEq, Int.reduceBNe, Int.reduceLT, Int.reduceLE, decide_true, decide_false, eq_self, Bool.not_true, Bool.not_false, ↓ev_fa, ↓ev_field, ↓ev_load, ↓ev_store, stO_cells, List.all_cons, List.all_nil, Bool.and_self, Bool.and_true, c1]
    refine W.done ?_
    simp only [tok_int, walk, walkL, evOp, quietOp, farOp, nov, gd, rho, putT, wr, Nat.reduceAdd, Nat.reduceSub, Bool.false_eq_true, if_true, if_false, reduceIte, reduceCtorEq, walkM, Int.reduceBEq, Int.reduceBNe, Int.reduceLT, Int.reduceLE, decide_true, decide_false, eq_self, Bool.not_true, Bool.not_false, ↓ev_fa, ↓ev_field, ↓ev_load, ↓ev_store, stO_cells, List.all_cons, List.all_nil, Bool.and_self, Bool.and_true, ta126, new, hget, hset, fget, fset, List.modify_zero_cons, List.modify_succ_cons, List.modify_cons, Nat.reduceLT, Nat.reduceEqDiff, Nat.lt_irrefl, Nat.not_lt_zero, Nat.lt_add_one, splice, zerosN, fillV, walkB, pureL, V.pure, Nat.reduceMul, Nat.reduceLeDiff, Nat.one_ne_zero, and_self, and_true, true_and, List.take_zero, List.drop_succ_cons, List.drop_zero, List.take_succ_cons, List.replicate_one, Bool.and_self, Bool.and_true, List.drop_nil, List.take_nil, Nat.le_refl, Nat.zero_add, Nat.zero_mul, Nat.one_mul, Nat.mul_one, wsc, lw]
    refine W.ul ?_
    refine W.loop (fun (i : Nat) t H => ∃ F : AM.Frame, maskT [3, 33, 34, 35] t 0 = st126_8 (.bool true) wv (.int .i64 n) (.int .i64 i) ∧ i ≤ n ∧ H = [F] ∧ (F = [(1, .cells [.islice rv 256 fl, wv])] ∨ ∃ x, F = [(1, .cells [.islice rv 256 fl, wv]), (7, .cells x)])) (fun i => n - i) ?_ 0 ⟨_, rfl, by omega, rfl, .inl rfl⟩ rfl
    rintro i t H ⟨F, ht, hi, rfl, hF⟩
    have hd : ([F] : Heap).modify 0 (fdel fun s => [7].contains s) = [[(1, .cells [.islice rv 256 fl, wv])]] := by
      rcases hF with rfl | ⟨x, rfl⟩ <;> rfl
    have wvr : wv.refs (fun f s => f == 0 && [7].contains s) = false := hv.noRefs _
    refine ⟨_, _, forget_drop (kt := [3, 33, 34, 35]) (ds := [7]) rfl ?_ ?_, ?_⟩
    · rw [ht]
      simp only [st126_8, refsL, V.refs, wvr]; simp
    · rw [hd]
      simp only [clearH, clearF, O.refs, refsL, V.refs, wvr]; simp
    rw [ht, hd]
    simp only [st126_8]
    by_cases h : i < n
    · have c1 : decide ((i : Int) < n) = true := decide_eq_true (by omega)
      have w1 := wrap_add1 (i := i) (by omega)
      obtain ⟨e1, fl2, e2⟩ := hwait i h
      have at1 := hv.at (k := .i64) Tryz.underlying23 sz242 (by decide) (i := (i : Int)) (by omega) (by omega)
      have ldw := write_at h hv.1 e1 e2
      obtain ⟨m, rfl, hm⟩ := (place_fz (a i) (ha i h).1 (ha i h).2).op (by rfl) rfl
      have hm' : ∀ s H, _ := fun s H => hm 126 0 s H rfl
      simp only [tok_int, walk, walkL, evOp, quietOp, farOp, nov, gd, rho, putT, wr, Nat.reduceAdd, Nat.reduceSub, Bool.false_eq_true, if_true, if_false, reduceIte, reduceCtorEq, walkM, Int.reduceBEq, Int.reduceBNe, Int.reduceLT, Int.reduceLE, decide_true, decide_false, eq_self, Bool.not_true, Bool.not_false, ↓ev_fa, ↓ev_field, ↓ev_load, ↓ev_store, stO_cells, List.all_cons, List.all_nil, Bool.and_self, Bool.and_true, c1, at1, ldw, ta126, new, hget, hset, fget, fset, List.modify_zero_cons, List.modify_succ_cons, List.modify_cons, Nat.reduceLT, Nat.reduceEqDiff, Nat.lt_irrefl, Nat.not_lt_zero, Nat.lt_add_one, splice, zerosN, fillV, walkB, pureL, V.pure, Nat.reduceMul, Nat.reduceLeDiff, Nat.one_ne_zero, and_self, and_true, true_and, List.take_zero, List.drop_succ_cons, List.drop_zero, List.take_succ_cons, List.replicate_one, Bool.and_self, Bool.and_true, List.drop_nil, List.take_nil, Nat.le_refl, Nat.zero_add, Nat.zero_mul, Nat.one_mul, Nat.mul_one, w1, hm', e256]
      exact W.done ⟨i + 1, ⟨_, rfl, by omega, rfl, .inr ⟨_, rfl⟩⟩, by omega⟩
    · have c1 : decide ((i : Int) < n) = false := decide_eq_false (by omega)
      simp only [tok_int, walk, walkL, evOp, quietOp, farOp, nov, gd, rho, putT, wr, Nat.reduceAdd, Nat.reduceSub, Bool.false_eq_true, if_true, if_false, reduceIte, reduceCtorEq, walkM, Int.reduceBEq, Int.reduceBNe, Int.reduceLT, Int.reduceLE, decide_true, decide_false, eq_self, Bool.not_true, Bool.not_false, ↓ev_fa, ↓ev_field, ↓ev_load, ↓ev_store, stO_cells, List.all_cons, List.all_nil, Bool.and_self, Bool.and_true, c1]
      refine W.done ?_
      simp only [tok_int, walk, walkL, evOp, quietOp, farOp, nov, gd, rho, putT, wr, Nat.reduceAdd, Nat.reduceSub, Bool.false_eq_true, if_true, if_false, reduceIte, reduceCtorEq, walkM, Int.reduceBEq, Int.reduceBNe, Int.reduceLT, Int.reduceLE, decide_true, decide_false, eq_self, Bool.not_true, Bool.not_false, ↓ev_fa, ↓ev_field, ↓ev_load, ↓ev_store, stO_cells, List.all_cons, List.all_nil, Bool.and_self, Bool.and_true]
      exact W.done (End.ret (v := .int .i64 0) rfl rfl)
end Go.Proofs.YtafhcdagifopeaaGreatDoor
end
section
/- dev: New; slices.Repeat. -/
set_option maxRecDepth 100000
namespace Go.Proofs.YtafhcdagifopeaaGreatDoor
open Go.AM
attribute [local irreducible] U W

theorem mul_run : callN Tryz.prog polD 60 (some 199) [.int .u64 1, .int .u64 256] [] = some (.ret (.tuple [.int .u64 0, .int .u64 256]), []) := by kernel_rfl
theorem mul_fz : Fz Tryz.prog polD 199 [.int .u64 1, .int .u64 256] fun x => x = .tuple [.int .u64 0, .int .u64 256] :=
  ⟨_, _, _, callW_some.2 ⟨60, mul_run⟩, frz_tup (frzL_cons rfl (frzL_cons rfl rfl)), rfl⟩

theorem rep_add (n m : Nat) (x : Int) : List.replicate n x ++ List.replicate m x = List.replicate (n + m) x := by
  induction n with
  | zero => simp
  | succ n ih => rw [List.replicate_succ, List.cons_append, ih, Nat.succ_add, List.replicate_succ]
def reps (n : Nat) : List Int := List.replicate n 256 ++ List.replicate (256 - n) 0
theorem reps_length {n : Nat} (h : n ≤ 256) : (reps n).length = 256 := by simp [reps]; omega
theorem reps_take {n m : Nat} (h : m ≤ n) : (ofInts (reps n)).take m = ofInts (List.replicate m 256) := by
  have : (List.replicate n (256 : Int) ++ List.replicate (256 - n) 0).take m = List.replicate m 256 := by
    rw [List.take_append_of_le_length (by simp; exact h), List.take_replicate]; congr 1; omega
  rw [ofInts, ← List.map_take, reps, this]; rfl
theorem reps_splice {n m : Nat} (h : n + m ≤ 256) : splice (ofInts (reps n)) n (ofInts (List.replicate m 256)) = ofInts (reps (n + m)) := by
  have e : splice (reps n) n (List.replicate m 256) = reps (n + m) := by
    unfold splice reps
    rw [List.take_left' (by simp), List.length_replicate, List.drop_append, List.drop_eq_nil_of_le (by simp), List.length_replicate, List.nil_append, List.drop_replicate, rep_add]
    congr 2; omega
  rw [← e]
  simp [splice, ofInts]

theorem cut_to0 {P : Program} {u e : TypeId} (hu : P.underlying u = some (.slice e)) {q : Nat} (hs : sz P e = some q) {g : Get} {f s o len c n : Nat} {k : IntKind} (h : n ≤ c) (h2 : 0 < c) (h3 : len ≤ c) :
    sliceV P g u (.mslice f s o len (some c) q) none (some (.int k n)) none = some (.mslice f s o n (some c) q) := by
  simp only [sliceV, optInt, hu, hs, if_true, cutM, cuts, Option.getD_none, Option.getD_some]
  rw [if_pos ⟨by omega, by omega, by omega, by omega, by omega, by omega, by simp⟩]
  simp

theorem repeat_fz : Fz Tryz.prog polD 156 [.islice [.int .i64 256] 1 true, .int .i64 256] fun x => x = .islice (ofInts (reps 256)) 256 true := by
  refine fz_of Tryz.func156 rfl ?_
  obtain ⟨m, rfl, hm⟩ := mul_fz.op (by rfl) rfl
  have hm' : ∀ s H, _ := fun s H => hm 156 0 s H rfl
  have cv : ∀ g, convertV Tryz.prog g 3 203 (.int .i64 ((1 : Nat) : Int)) = some (.val (.int .u64 1) none) := fun g => by simp only [convertV, Tryz.underlying3, Tryz.underlying203]; rfl
  have cv2 : ∀ g, convertV Tryz.prog g 3 203 (.int .i64 256) = some (.val (.int .u64 256) none) := fun g => by simp only [convertV, Tryz.underlying3, Tryz.underlying203]; rfl
  have cv3 : ∀ g, convertV Tryz.prog g 203 3 (.int .u64 256) = some (.val (.int .i64 256) none) := fun g => by simp only [convertV, Tryz.underlying3, Tryz.underlying203]; rfl
  have rm : roomy 256 8 = true := by decide
  have hZ : zerosN [V.int .i64 0] 256 = ofInts (reps 0) := by kernel_rfl
  have hZ' : zerosN [V.int .i64 0] (256 : Int).toNat = ofInts (reps 0) := hZ
  have c0 : decide ((0 : Int) > 0) = false := rfl
  have c1 : decide ((256 : Int) > 9223372036854775807) = false := rfl
  have cp0 : copyV Tryz.prog (hget [[(30, .cells (ofInts (reps 0)))]]) 32 (.mslice 0 30 0 256 (some 256) 1) (.islice [.int .i64 256] 1 true) = some (.val (.int .i64 1) (some (0, 30, .cells (ofInts (reps 1))))) := by
    have sc : copySrc (hget [[(30, .cells (ofInts (reps 0)))]]) 1 (.islice [.int .i64 256] 1 true) = some (ofInts (List.replicate 1 256), 1) := rfl
    have hg : hget [[(30, O.cells (ofInts (reps 0)))]] 0 30 = some (.cells (ofInts (reps 0))) := rfl
    simp only [copyV, Tryz.underlying32, sz3, sc, copyTo, hg, if_true]
    have sp := reps_splice (n := 0) (m := 1) (by omega)
    have tk : (ofInts (List.replicate 1 256)).take (min 1 256 * 1) = ofInts (List.replicate 1 256) := rfl
    rw [tk, sp, if_pos ⟨by rw [ofInts_length, reps_length (by omega)]; decide, rfl⟩]
    rfl
  simp only [tok_int, walk, walkL, evOp, quietOp, farOp, nov, gd, rho, putT, wr, Nat.reduceAdd, Nat.reduceSub, Bool.false_eq_true, if_true, if_false, reduceIte, reduceCtorEq, walkM, Int.reduceBEq, Int.reduceBNe, Int.reduceLT, Int.reduceLE, decide_true, decide_false, eq_self, Bool.not_true, Bool.not_false, ↓ev_fa, ↓ev_field, ↓ev_load, ↓ev_store, stO_cells, List.all_cons, List.all_nil, Bool.and_self, Bool.and_true, Tryz.ntmps156, ta156, new, hget, hset, fget, fset, List.modify_zero_cons, List.modify_succ_cons, List.modify_cons, Nat.reduceLT, Nat.reduceEqDiff, Nat.lt_irrefl, Nat.not_lt_zero, Nat.lt_add_one, cv, cv2, cv3, hm', c0, c1, Tryz.underlying32, by64, Int.reduceToNat, rm, and_self, hZ, hZ', bi_copy, cp0, Int.reduceGT]
  refine W.ul ?_
  refine W.loopS (kt := [7, 8]) rfl (fun n : Nat => st156_8 (.mslice 0 30 0 256 (some 256) 1) (.int .i64 n)) (fun n => [[(30, .cells (ofInts (reps n)))]]) (fun n => 1 ≤ n ∧ n ≤ 256) (fun n => 256 - n) ?_ 1 (by omega) rfl rfl
  rintro n ⟨h1, h2⟩
  simp only [st156_8]
  have len := fun g => len_m (P := Tryz.prog) Tryz.underlying32 (f := 0) (s := 30) (o := 0) (len := 256) (esz := 1) (cap := some 256) g
  by_cases h : n < 256
  · have c2 : decide ((n : Int) < ((256 : Nat) : Int)) = true := decide_eq_true (by omega)
    have sl1 : ∀ g, sliceV Tryz.prog g 32 (.mslice 0 30 0 256 (some 256) 1) (some (.int .i64 n)) none none = some (.mslice 0 30 n (256 - n) (some (256 - n)) 1) := fun g => by
      have := cut_from (P := Tryz.prog) (u := 32) Tryz.underlying32 sz3 (f := 0) (s := 30) (o := 0) (len := 256) (c := 256) (w := n) (k := .i64) (by omega) (by omega) g
      rw [this, if_neg (by omega)]; simp
    have sl2 : ∀ g, sliceV Tryz.prog g 32 (.mslice 0 30 0 256 (some 256) 1) none (some (.int .i64 n)) none = some (.mslice 0 30 0 n (some 256) 1) := fun g => cut_to0 Tryz.underlying32 sz3 (by omega) (by omega) (by omega)
    have cp : copyV Tryz.prog (hget [[(30, .cells (ofInts (reps n)))]]) 32 (.mslice 0 30 n (256 - n) (some (256 - n)) 1) (.mslice 0 30 0 n (some 256) 1) = some (.val (.int .i64 (min n (256 - n) : Nat)) (some (0, 30, .cells (ofInts (reps (n + min n (256 - n))))))) := by
      have hg : hget [[(30, O.cells (ofInts (reps n)))]] 0 30 = some (.cells (ofInts (reps n))) := rfl
      have hl : (ofInts (reps n)).length = 256 := by rw [ofInts_length, reps_length h2]
      have sc : copySrc (hget [[(30, .cells (ofInts (reps n)))]]) 1 (.mslice 0 30 0 n (some 256) 1) = some (ofInts (List.replicate n 256), n) := by
        simp only [copySrc, sliceCells, hg, List.drop_zero, Nat.mul_one, reps_take (Nat.le_refl n)]
        rw [if_pos ⟨trivial, by rw [hl]; omega⟩]
      have tk : (ofInts (List.replicate n 256)).take (min n (256 - n) * 1) = ofInts (List.replicate (min n (256 - n)) 256) := by
        rw [Nat.mul_one, ofInts, ← List.map_take, List.take_replicate]
        have : min (min n (256 - n)) n = min n (256 - n) := by omega
        rw [this]; rfl
      simp only [copyV, Tryz.underlying32, sz3, sc, copyTo, hg, if_true, tk]
      rw [reps_splice (by omega), if_pos ⟨by rw [hl]; omega, scalar_ofInts _⟩]
    have w1 : (IntKind.i64).wrap ((n : Int) + ((min n (256 - n) : Nat) : Int)) = ((n + min n (256 - n) : Nat) : Int) := by rw [wrap_i64] <;> omega
    simp only [tok_int, walk, walkL, evOp, quietOp, farOp, nov, gd, rho, putT, wr, Nat.reduceAdd, Nat.reduceSub, Bool.false_eq_true, if_true, if_false, reduceIte, reduceCtorEq, walkM, Int.reduceBEq, Int.reduceBNe, Int.reduceLT, Int.reduceLE, decide_true, decide_false, eq_self, Bool.not_true, Bool.not_false, ↓ev_fa, ↓ev_field, ↓ev_load, ↓ev_store, stO_cells, List.all_cons, List.all_nil, Bool.and_self, Bool.and_true, len, c2, sl1, sl2, bi_copy, cp, new, hget, hset, fget, fset, List.modify_zero_cons, List.modify_succ_cons, List.modify_cons, Nat.reduceLT, Nat.reduceEqDiff, Nat.lt_irrefl, Nat.not_lt_zero, Nat.lt_add_one]
    refine W.opsK (by kernel_rfl) ?_
    simp only [tok_int, walk, walkL, evOp, quietOp, farOp, nov, gd, rho, putT, wr, Nat.reduceAdd, Nat.reduceSub, Bool.false_eq_true, if_true, if_false, reduceIte, reduceCtorEq, walkM, Int.reduceBEq, Int.reduceBNe, Int.reduceLT, Int.reduceLE, decide_true, decide_false, eq_self, Bool.not_true, Bool.not_false, ↓ev_fa, ↓ev_field, ↓ev_load, ↓ev_store, stO_cells, List.all_cons, List.all_nil, Bool.and_self, Bool.and_true, w1]
    exact W.done ⟨n + min n (256 - n), rfl, rfl, by omega, by omega⟩
  · have c2 : decide ((n : Int) < ((256 : Nat) : Int)) = false := decide_eq_false (by omega)
    have hn : n = 256 := by omega
    subst hn
    simp only [tok_int, walk, walkL, evOp, quietOp, farOp, nov, gd, rho, putT, wr, Nat.reduceAdd, Nat.reduceSub, Bool.false_eq_true, if_true, if_false, reduceIte, reduceCtorEq, walkM, Int.reduceBEq, Int.reduceBNe, Int.reduceLT, Int.reduceLE, decide_true, decide_false, eq_self, Bool.not_true, Bool.not_false, ↓ev_fa, ↓ev_field, ↓ev_load, ↓ev_store, stO_cells, List.all_cons, List.all_nil, Bool.and_self, Bool.and_true, len, c2]
    refine W.done ?_
    simp only [tok_int, walk, walkL, evOp, quietOp, farOp, nov, gd, rho, putT, wr, Nat.reduceAdd, Nat.reduceSub, Bool.false_eq_true, if_true, if_false, reduceIte, reduceCtorEq, walkM, Int.reduceBEq, Int.reduceBNe, Int.reduceLT, Int.reduceLE, decide_true, decide_false, eq_self, Bool.not_true, Bool.not_false, ↓ev_fa, ↓ev_field, ↓ev_load, ↓ev_store, stO_cells, List.all_cons, List.all_nil, Bool.and_self, Bool.and_true]
    refine W.done (EndZ.normal (v := .mslice 0 30 0 256 (some 256) 1) rfl ?_ rfl)
    have e : ((ofInts (reps 256)).drop 0).take (256 * 1) = ofInts (reps 256) := by
      rw [List.drop_zero, List.take_of_length_le]; rw [ofInts_length, reps_length (Nat.le_refl _)]; exact Nat.le_refl _
    have := frz_cells (g := hget [[(30, O.cells (ofInts (reps 256)))]]) (f := 0) (s := 30) (o := 0) (len := 256) (esz := 1) (cap := some 256) (m := 10) rfl (by rw [ofInts_length, reps_length (Nat.le_refl _)]; exact Nat.le_refl _) (by rw [e]; exact frzL_ofInts _ _ _)
    rw [e] at this
    exact this
end Go.Proofs.YtafhcdagifopeaaGreatDoor
end
section
/- dev: New. -/
set_option maxRecDepth 100000
namespace Go.Proofs.YtafhcdagifopeaaGreatDoor
open Go.AM
attribute [local irreducible] U W

theorem zerosN_rep (x : V) (n : Nat) : zerosN [x] n = List.replicate n x := by
  induction n with
  | zero => rfl
  | succ n ih => show [x] ++ zerosN [x] n = _; rw [ih, List.replicate_succ]; rfl
theorem dataM_zeros (x : V) : dataM (fun _ => List.replicate 256 x) (zerosN [x] 65536) 256 = zerosN [x] 65536 := by
  rw [zerosN_rep]
  refine List.eq_replicate_iff.2 ⟨?_, ?_⟩
  · exact dataM_length (by rw [List.length_replicate]) (Nat.le_refl _) (fun j _ => by rw [List.length_replicate])
  · intro b hb
    unfold dataM at hb
    rcases List.mem_append.1 hb with h | h
    · obtain ⟨l, hl, hbl⟩ := List.mem_flatten.1 h
      obtain ⟨j, _, rfl⟩ := List.mem_map.1 hl
      exact (List.mem_replicate.1 hbl).2
    · exact (List.mem_replicate.1 (List.mem_of_mem_drop h)).2
def newV : V := .agg [.islice (List.replicate 256 (.islice (List.replicate 256 (.int .u8 0)) 256 true)) 256 false, .nilslice]
theorem encD_zeros : encD (fun _ => List.replicate 256 (.int .u8 0)) (fun _ => 0) (fun _ => []) 0 = newV := by
  have e : ((List.range 256).map fun j => V.islice ((fun _ => List.replicate 256 (V.int .u8 0)) j) 256 true) = List.replicate 256 (.islice (List.replicate 256 (.int .u8 0)) 256 true) := by
    rw [List.map_const', List.length_range]
  show V.agg [.islice ((List.range 256).map fun j => V.islice ((fun _ => List.replicate 256 (V.int .u8 0)) j) 256 true) 256 false, if 0 = 0 then .nilslice else _] = _
  rw [e, if_pos rfl]
  rfl

theorem new_fz : Fz Tryz.prog polD 117 [] fun x => x = newV := by
  refine fz_of Tryz.func117 rfl ?_
  obtain ⟨m, rfl, hm⟩ := repeat_fz.op (by rfl) rfl
  have hm' : ∀ s H, _ := fun s H => hm 117 0 s H rfl
  have hr : ∀ i, i < 256 → (reps 256)[i]? = some 256 := fun i hi => by
    have : reps 256 = List.replicate 256 256 := by simp only [reps, Nat.sub_self, List.replicate_zero, List.append_nil]
    rw [this, List.getElem?_replicate, if_pos hi]
  have hv : IsInts (.islice (ofInts (reps 256)) 256 true) (reps 256) := by
    have := IsInts.mk (reps 256) true
    rwa [reps_length (Nat.le_refl _)] at this
  have hwF : WF [[(0, O.cells [.nilslice, .nilslice])]] := rfl
  obtain ⟨rr, KK, hcall, rfl, rfl⟩ := cut_cw [[(0, .cells [.nilslice, .nilslice])]] hwF (.islice (ofInts (reps 256)) 256 true) (reps 256) (reps_length (Nat.le_refl _)) hr hv
  have hcall' : callOp polD (callW Tryz.prog polD) 117 0 (some 3) 155 [.islice (ofInts (reps 256)) 256 true] [[(0, .cells [.nilslice, .nilslice])]] = some (.ret (.gslice 1 33 (rowsM 1 256) 256 1), [[(0, .cells [.nilslice, .nilslice])], [(20, .cells (zerosN [.int .u8 0] 65536)), (33, .grow 256)]]) :=
    callOp_thin rfl rfl rfl rfl hcall
  generalize hZ : zerosN [V.int .u8 0] 65536 = Z at hcall'
  generalize hR : rowsM 1 256 = R at hcall'
  generalize hQ : ofInts (reps 256) = Q at hm' hcall'
  have mt1 : polD.mt 117 1 = false := rfl
  simp only [tok_int, walk, walkL, evOp, quietOp, farOp, nov, gd, rho, putT, wr, Nat.reduceAdd, Nat.reduceSub, Bool.false_eq_true, if_true, if_false, reduceIte, reduceCtorEq, walkM, Int.reduceBEq, Int.reduceBNe, Int.reduceLT, Int.reduceLE, decide_true, decide_false, eq_self, Bool.not_true, Bool.not_false, ↓ev_fa, ↓ev_field, ↓ev_load, ↓ev_store, stO_cells, List.all_cons, List.all_nil, Bool.and_self, Bool.and_true, Tryz.ntmps117, ta117, new, hget, hset, fget, fset, List.modify_zero_cons, List.modify_succ_cons, List.modify_cons, Nat.reduceLT, Nat.reduceEqDiff, Nat.lt_irrefl, Nat.not_lt_zero, Nat.lt_add_one, splice, zerosN, fillV, walkB, pureL, V.pure, Nat.reduceMul, Nat.reduceLeDiff, Nat.one_ne_zero, and_self, and_true, true_and, List.take_zero, List.drop_succ_cons, List.drop_zero, List.take_succ_cons, List.replicate_one, Bool.and_self, Bool.and_true, List.drop_nil, List.take_nil, Nat.le_refl, Nat.zero_add, Nat.zero_mul, Nat.one_mul, Nat.mul_one, mt1, hm', hcall', Tryz.underlying32, sz3, zc3]
  refine W.done (EndZ.ret (v := .agg [.gslice 1 33 R 256 1, .nilslice]) ?_ ?_ rfl)
  · exact res_cell2 (f := 0) (s := 0) (o := 0) (xs := [.gslice 1 33 R 256 1, .nilslice]) rfl rfl rfl (by rw [rd25]; rfl)
  rw [← encD_zeros, ← hR]
  refine twin_frz 0 _ (fun _ => List.replicate 256 (.int .u8 0)) (zerosN [.int .u8 0] 65536) (fun _ => 0) (fun _ => []) 0 (fun i _ => ⟨by rw [List.length_replicate], by
    rw [List.all_eq_true]; intro x hx; rw [(List.mem_replicate.1 hx).2]; rfl⟩) (zeros_length _ _) ?_
  rw [dataM_zeros, hZ]; rfl
end Go.Proofs.YtafhcdagifopeaaGreatDoor
end
section
/- dev: lasts, of all. -/
set_option maxRecDepth 100000
namespace Go.Proofs.YtafhcdagifopeaaGreatDoor
open Go.AM
attribute [local irreducible] U W

def ent (x : Int × V) : V × V := (.int .i64 x.1, .agg [.int .i64 x.1, x.2])
def updL : List (Int × V) → Int → V → List (Int × V)
  | [], k, v => [(k, v)]
  | (k', v') :: r, k, v => if k = k' then (k, v) :: r else (k', v') :: updL r k v
theorem find_L (k : Int) (v : V) : ∀ (L : List (Int × V)) (i0 : Nat),
    (∃ j x, findKey (.int .i64 k) (L.map ent) i0 = some (some (i0 + j, x)) ∧ (L.map ent).set j (ent (k, v)) = (updL L k v).map ent ∧ (updL L k v).length = L.length) ∨
    (findKey (.int .i64 k) (L.map ent) i0 = some none ∧ L.map ent ++ [ent (k, v)] = (updL L k v).map ent ∧ (updL L k v).length = L.length + 1)
  | [], i0 => .inr ⟨rfl, rfl, rfl⟩
  | (k', v') :: r, i0 => by
    have e : findKey (.int .i64 k) (((k', v') :: r).map ent) i0 = (match (if (k == k') then some true else some false : Option Bool) with
      | some true => some (some (i0, (ent (k', v')).2))
      | some false => findKey (.int .i64 k) (r.map ent) (i0 + 1)
      | none => none) := by
      show (match (if IntKind.i64 = IntKind.i64 then some (k == k') else none : Option Bool) with
      | some true => some (some (i0, (ent (k', v')).2))
      | some false => findKey (.int .i64 k) (r.map ent) (i0 + 1)
      | none => none) = _
      rw [if_pos rfl]
      cases (k == k') <;> rfl
    rw [e]
    by_cases h : k = k'
    · subst h
      refine .inl ⟨0, _, by simp; rfl, ?_, ?_⟩
      · simp [updL]
      · simp [updL]
    · have hb : (k == k') = false := by simp [h]
      rw [hb]
      simp only [Bool.false_eq_true, if_false, updL, h]
      rcases find_L k v r (i0 + 1) with ⟨j, x, h1, h2, h3⟩ | ⟨h1, h2, h3⟩
      · refine .inl ⟨j + 1, x, by rw [h1]; congr 3; omega, ?_, ?_⟩
        · simp only [List.map_cons, List.set_cons_succ, h2]
        · simp only [List.length_cons, h3]
      · exact .inr ⟨h1, by simp only [List.map_cons, List.cons_append, h2], by simp only [List.length_cons, h3]⟩

def mapO (L : List (Int × V)) : O := .map (L.map ent) (List.range L.length) L.length
theorem upd_L {g : Get} {f s : Nat} {L : List (Int × V)} (k : Int) (v : V) (hg : g f s = some (mapO L)) :
    updateV Tryz.prog g 271 (.map f s) (.int .i64 k) (.agg [.int .i64 k, v]) = some (.val .bad (some (f, s, mapO (updL L k v)))) := by
  have hk : plainKey (.int .i64) (.int .i64 k) = true := rfl
  unfold mapO at hg
  simp only [updateV, Tryz.underlying271, Tryz.underlying3, hk, if_true, hg]
  rcases find_L k v L 0 with ⟨j, x, h1, h2, h3⟩ | ⟨h1, h2, h3⟩
  · simp only [h1, Nat.zero_add]
    unfold mapO
    rw [h3, ← h2]; rfl
  · simp only [h1]
    unfold mapO
    rw [h3, ← h2, List.range_succ]; rfl

def lastN (a : Nat → Int) (dv : Nat → V) : Nat → List (Int × V)
  | 0 => []
  | i + 1 => updL (lastN a dv i) (a i) (dv i)

theorem all_fz (i : Int) : Fz Tryz.prog polD 178 [.int .i64 i] fun x => x = .bool true := by
  refine fz_of Tryz.func178 rfl ?_
  simp only [tok_int, walk, walkL, evOp, quietOp, farOp, nov, gd, rho, putT, wr, Nat.reduceAdd, Nat.reduceSub, Bool.false_eq_true, if_true, if_false, reduceIte, reduceCtorEq, walkM, Int.reduceBEq, Int.reduceBNe, Int.reduceLT, Int.reduceLE, decide_true, decide_false, eq_self, Bool.not_true, Bool.not_false, ↓ev_fa, ↓ev_field, ↓ev_load, ↓ev_store, stO_cells, List.all_cons, List.all_nil, Bool.and_self, Bool.and_true, Tryz.ntmps178]
  exact W.done (EndZ.ret rfl rfl rfl)

def laF (bv wv : V) (L : List (Int × V)) : AM.Frame := [(2, .cells [bv, wv]), (8, mapO L)]
def laF' (bv wv : V) (y : List V) (L : List (Int × V)) : AM.Frame := [(2, .cells [bv, wv]), (7, .cells y), (8, mapO L)]
theorem write_at' {cs : List V} {n i : Nat} {a : Int} {x : V} (h : i < n) (hl : cs.length = n * 2) (e1 : cs[2 * i]? = some (.int .i64 a)) (e2 : cs[2 * i + 1]? = some x) :
    readAt Tryz.prog 242 cs ((i : Int).toNat * 2) = some (.agg [.int .i64 a, x]) := by
  have e : (i : Int).toNat * 2 = 2 * i := by omega
  rw [e, rd242, if_pos (by omega)]
  obtain ⟨l1, g1⟩ := List.getElem?_eq_some_iff.1 e1
  obtain ⟨l2, g2⟩ := List.getElem?_eq_some_iff.1 e2
  rw [List.drop_eq_getElem_cons l1, List.take_succ_cons, List.drop_eq_getElem_cons l2, List.take_succ_cons, List.take_zero, g1, g2]

theorem updL_mem : ∀ (L : List (Int × V)) (k : Int) (v : V) (x : Int × V), x ∈ updL L k v → x = (k, v) ∨ x ∈ L
  | [], k, v, x, h => .inl (by simpa [updL] using h)
  | (k', v') :: r, k, v, x, h => by
    simp only [updL] at h
    split at h
    · rcases List.mem_cons.1 h with rfl | h
      · exact .inl rfl
      · exact .inr (List.mem_cons_of_mem _ h)
    · rcases List.mem_cons.1 h with rfl | h
      · exact .inr (List.mem_cons_self)
      · rcases updL_mem r k v x h with e | e
        · exact .inl e
        · exact .inr (List.mem_cons_of_mem _ e)
theorem lastN_mem (a : Nat → Int) (dv : Nat → V) : ∀ (i : Nat) (x : Int × V), x ∈ lastN a dv i → ∃ j, j < i ∧ x.2 = dv j
  | 0, x, h => by cases h
  | i + 1, x, h => by
    rcases updL_mem _ _ _ _ h with rfl | h
    · exact ⟨i, by omega, rfl⟩
    · obtain ⟨j, hj, e⟩ := lastN_mem a dv i x h
      exact ⟨j, by omega, e⟩
theorem mapO_refs (p : Nat → Nat → Bool) (L : List (Int × V)) (h : ∀ x ∈ L, x.2.refs p = false) : (mapO L).refs p = false := by
  show refsM p (L.map ent) = false
  induction L with
  | nil => rfl
  | cons x L ih =>
    have h1 := h x (by simp)
    have h2 := ih (fun y hy => h y (by simp [hy]))
    simp only [List.map_cons, refsM, ent, V.refs, refsL, h1, h2]; rfl

theorem orc {p : Nat → Nat → Bool} {xs : List V} : (O.cells xs).refs p = refsL p xs := rfl
theorem lasts_cw (K : Heap) (hw : WF K) (bv wv : V) (hbs : bv.scalar = true) (hbr : bv.refs (fun f _ => Nat.ble K.length f) = false) (cs : List V) (n : Nat) (hv : IsSl 2 wv cs n) (hn : n ≤ 4096) (a : Nat → Int) (dv : Nat → V)
    (hwait : ∀ j, j < n → cs[2 * j]? = some (.int .i64 (a j)) ∧ cs[2 * j + 1]? = some (dv j)) (hdv : ∀ j, j < n → ∃ c fl, dv j = .islice c 256 fl) :
    CW Tryz.prog polD 212 [.agg [bv, wv], .func (.func 178) [] []] K fun r K' => r = .ret (.map K.length 8) ∧ K' = K ++ [laF bv wv (lastN a dv n)] := by
  refine cw_of Tryz.func212 rfl ?_
  have lw := hv.len Tryz.underlying23
  have wsc : wv.scalar = true := slScalar hv
  simp only [tok_int, walk, walkL, evOp, quietOp, farOp, nov, gd, rho, putT, wr, Nat.reduceAdd, Nat.reduceSub, Bool.false_eq_true, if_true, if_false, reduceIte, reduceCtorEq, walkM, Int.reduceBEq, Int.reduceBNe, Int.reduceLT, Int.reduceLE, decide_true, decide_false, eq_self, Bool.not_true, Bool.not_false, ↓ev_fa, ↓ev_field, ↓ev_load, ↓ev_store, stO_cells, List.all_cons, List.all_nil, Bool.and_self, Bool.and_true, Tryz.ntmps212, ta212, new, hget_app, hget_app0, hset_app, hset_app0, hset_zero, hget_zero, hset_succ, hget_succ, fget, fset, Nat.reduceLT, Nat.reduceEqDiff, Nat.lt_irrefl, Nat.not_lt_zero, Nat.lt_add_one, splice, zerosN, fillV, walkB, pureL, V.pure, Nat.reduceMul, Nat.reduceLeDiff, Nat.one_ne_zero, and_self, and_true, true_and, List.take_zero, List.drop_succ_cons, List.drop_zero, List.take_succ_cons, List.replicate_one, Bool.and_self, Bool.and_true, List.drop_nil, List.take_nil, Nat.le_refl, Nat.zero_add, Nat.zero_mul, Nat.one_mul, Nat.mul_one, hbs, wsc, lw, Tryz.underlying271]
  refine W.ul ?_
  refine W.loop (fun (i : Nat) t H => ∃ F : AM.Frame, maskT [1, 5, 10, 11, 12] t 0 = st212_3 (.func (.func 178) [] []) (.map K.length 8) wv (.int .i64 n) (.int .i64 i) ∧ i ≤ n ∧ H = K ++ [F] ∧ (F = laF bv wv (lastN a dv i) ∨ ∃ y, F = laF' bv wv y (lastN a dv i)))
    (fun i => n - i) ?_ 0 ⟨_, rfl, by omega, rfl, .inl rfl⟩ rfl
  rintro i t H ⟨F, ht, hi, rfl, hF⟩
  have hd : (K ++ [F]).modify K.length (fdel fun s => [7].contains s) = K ++ [laF bv wv (lastN a dv i)] := by
    have := modify_app (fdel fun s => [7].contains s) K [F] 0
    refine this.trans ?_
    rcases hF with rfl | ⟨y, rfl⟩ <;> rfl
  have bvr : bv.refs (fun f s => f == K.length && [7].contains s) = false := refs_mono (fun f s h => by simp at h; simp; omega) bv hbr
  have wvr : wv.refs (fun f s => f == K.length && [7].contains s) = false := hv.noRefs _
  have mr : ∀ p : Nat → Nat → Bool, (mapO (lastN a dv i)).refs p = false := fun p => mapO_refs p _ (fun x hx => by
    obtain ⟨j, hj, e⟩ := lastN_mem a dv i x hx
    obtain ⟨c, fl, e2⟩ := hdv j (by omega)
    rw [e, e2]; rfl)
  refine ⟨_, _, forget_drop (kt := [1, 5, 10, 11, 12]) (ds := [7]) rfl ?_ ?_, ?_⟩
  · rw [ht]
    simp only [st212_3, refsL, V.refs, wvr]; simp
  · rw [hd, clearH_append, clear_fresh hw (fun f s h => by simp at h; omega)]
    simp only [laF, clearH, clearF, orc, refsL, bvr, wvr, mr]; rfl
  rw [ht, hd]
  simp only [st212_3]
  by_cases h : i < n
  · have c1 : decide ((i : Int) < n) = true := decide_eq_true (by omega)
    have w1 := wrap_add1 (i := i) (by omega)
    obtain ⟨e1, e2⟩ := hwait i h
    have at1 := hv.at (k := .i64) Tryz.underlying23 sz242 (by decide) (i := (i : Int)) (by omega) (by omega)
    have ldw := write_at' h hv.1 e1 e2
    obtain ⟨m, rfl, hm⟩ := (all_fz (i : Int)).op (by rfl) rfl
    have hm' : ∀ s H, _ := fun s H => hm 212 K.length s H rfl
    have dsc : (dv i).scalar = true := by obtain ⟨c, fl, e⟩ := hdv i h; rw [e]; rfl
    have up := upd_L (g := hget (K ++ [[(2, .cells [bv, wv]), (7, .cells [.int .i64 (a i), dv i]), (8, mapO (lastN a dv i))]])) (f := K.length) (s := 8) (L := lastN a dv i) (a i) (dv i) (by rw [hget_app0]; rfl)
    have eL : updL (lastN a dv i) (a i) (dv i) = lastN a dv (i + 1) := rfl
    rw [eL] at up
    simp only [laF]
    generalize hO : mapO (lastN a dv i) = O1 at up ⊢
    generalize hO2 : mapO (lastN a dv (i + 1)) = O2 at up
    simp only [tok_int, walk, walkL, evOp, quietOp, farOp, nov, gd, rho, putT, wr, Nat.reduceAdd, Nat.reduceSub, Bool.false_eq_true, if_true, if_false, reduceIte, reduceCtorEq, walkM, Int.reduceBEq, Int.reduceBNe, Int.reduceLT, Int.reduceLE, decide_true, decide_false, eq_self, Bool.not_true, Bool.not_false, ↓ev_fa, ↓ev_field, ↓ev_load, ↓ev_store, stO_cells, List.all_cons, List.all_nil, Bool.and_self, Bool.and_true, c1, at1, ldw, ta212, new, hget_app, hget_app0, hset_app, hset_app0, hset_zero, hget_zero, hset_succ, hget_succ, fget, fset, Nat.reduceLT, Nat.reduceEqDiff, Nat.lt_irrefl, Nat.not_lt_zero, Nat.lt_add_one, splice, zerosN, fillV, walkB, pureL, V.pure, Nat.reduceMul, Nat.reduceLeDiff, Nat.one_ne_zero, and_self, and_true, true_and, List.take_zero, List.drop_succ_cons, List.drop_zero, List.take_succ_cons, List.replicate_one, Bool.and_self, Bool.and_true, List.drop_nil, List.take_nil, Nat.le_refl, Nat.zero_add, Nat.zero_mul, Nat.one_mul, Nat.mul_one, w1, hm', dsc, up]
    exact W.done ⟨i + 1, ⟨_, rfl, by omega, rfl, .inr ⟨_, by rw [← hO2]; rfl⟩⟩, by omega⟩
  · have c1 : decide ((i : Int) < n) = false := decide_eq_false (by omega)
    have hi2 : i = n := by omega
    subst hi2
    simp only [tok_int, walk, walkL, evOp, quietOp, farOp, nov, gd, rho, putT, wr, Nat.reduceAdd, Nat.reduceSub, Bool.false_eq_true, if_true, if_false, reduceIte, reduceCtorEq, walkM, Int.reduceBEq, Int.reduceBNe, Int.reduceLT, Int.reduceLE, decide_true, decide_false, eq_self, Bool.not_true, Bool.not_false, ↓ev_fa, ↓ev_field, ↓ev_load, ↓ev_store, stO_cells, List.all_cons, List.all_nil, Bool.and_self, Bool.and_true, c1]
    refine W.done ?_
    simp only [tok_int, walk, walkL, evOp, quietOp, farOp, nov, gd, rho, putT, wr, Nat.reduceAdd, Nat.reduceSub, Bool.false_eq_true, if_true, if_false, reduceIte, reduceCtorEq, walkM, Int.reduceBEq, Int.reduceBNe, Int.reduceLT, Int.reduceLE, decide_true, decide_false, eq_self, Bool.not_true, Bool.not_false, ↓ev_fa, ↓ev_field, ↓ev_load, ↓ev_store, stO_cells, List.all_cons, List.all_nil, Bool.and_self, Bool.and_true]
    refine W.done (End.ret (v := .map K.length 8) rfl ?_)
    rw [popF_keep (by simp [V.refs])]
    exact ⟨rfl, rfl⟩
end Go.Proofs.YtafhcdagifopeaaGreatDoor
end
