/- This file holds in one the texts DG, DH; each says at its head what it proves. -/
import Derived.Test.YtafhcdagifopeaaGreatDoorT22
import Derived.Test.YtafhcdagifopeaaGreatDoorT35
set_option linter.unusedSimpArgs false
set_option linter.unusedVariables false
section
/- code: numbers of bytes; slices.Backward. -/
set_option maxRecDepth 100000
namespace Go.Proofs.YtafhcdagifopeaaGreatDoor
open Go.AM
attribute [local irreducible] U W

theorem backw_fz (v : V) (l : List UInt8) (hv : IsBytes v l) : Fz Tryz.prog polD 251 [v] fun r => r = .func (.func 273) [] [.iptr [v] 0] := by
  refine fz_of Tryz.func251 rfl ?_
  have c1 := hv.cells1
  simp only [tok_int, walk, walkL, evOp, quietOp, farOp, nov, gd, rho, putT, wr, Nat.reduceAdd, Nat.reduceSub, Bool.false_eq_true, if_true, if_false, reduceIte, reduceCtorEq, walkM, Int.reduceBEq, Int.reduceBNe, Int.reduceLT, Int.reduceLE, decide_true, decide_false, eq_self, Bool.not_true, Bool.not_false, ↓ev_fa, ↓ev_field, ↓ev_load, ↓ev_store, stO_cells, List.all_cons, List.all_nil, Bool.and_self, Bool.and_true, Tryz.ntmps251, ta251, new, hget, hset, fget, fset, List.modify_zero_cons, List.modify_succ_cons, List.modify_cons, Nat.reduceLT, Nat.reduceEqDiff, Nat.lt_irrefl, Nat.not_lt_zero, Nat.lt_add_one, splice, zerosN, fillV, walkB, pureL, V.pure, Nat.reduceMul, Nat.reduceLeDiff, Nat.one_ne_zero, and_self, and_true, true_and, List.take_zero, List.drop_succ_cons, List.drop_zero, List.take_succ_cons, List.replicate_one, Bool.and_self, Bool.and_true, List.drop_nil, List.take_nil, Nat.le_refl, Nat.zero_add, Nat.zero_mul, Nat.one_mul, Nat.mul_one, c1]
  have hf : frz (hget [[(1, O.cells [v])]]) depth (.func (.func 273) [] [.ptr 0 1 0]) = some (.func (.func 273) [] [.iptr [v] 0]) := by
    have e := hv.frz (g := hget [[(1, O.cells [v])]]) 9
    have e1 : frz (hget [[(1, O.cells [v])]]) 11 (.ptr 0 1 0) = some (.iptr [v] 0) := by
      show (frzL (frz (hget [[(1, O.cells [v])]]) 10) [v]).map _ = _
      rw [frzL_cons e rfl]; rfl
    show (match frzL (frz _ 11) [], frzL (frz _ 11) [.ptr 0 1 0] with | some a, some b => some (V.func _ a b) | _, _ => none) = _
    rw [frzL_cons e1 rfl]; rfl
  exact W.done (EndZ.ret (v := .func (.func 273) [] [.ptr 0 1 0]) rfl hf rfl)

theorem backw_cw (v : V) (l : List UInt8) (hv : IsBytes v l) (hl : l.length ≤ 281474976710656) (fo so : Nat) (HS : Nat → Heap) (hlen : ∀ i, (HS i).length = (HS l.length).length) (hw : WF (HS 0))
    (step : ∀ i (h : i < l.length), callW Tryz.prog polD none [.yield fo so, .int .i64 i, .int .u8 l[i].toNat] (HS (i + 1) ++ [[]]) = some (.ret (.bool true), HS i ++ [[]])) :
    CW Tryz.prog polD 273 [.yield fo so, .iptr [v] 0] (HS l.length) fun r H' => r = .ret (.tuple []) ∧ H' = HS 0 := by
  refine cw_of Tryz.func273 rfl ?_
  have len := hv.len Tryz.underlying26
  have w0 : (IntKind.i64).wrap ((l.length : Int) - 1) = (l.length : Int) - 1 := by rw [wrap_i64] <;> omega
  simp only [tok_int, walk, walkL, evOp, quietOp, farOp, nov, gd, rho, putT, wr, Nat.reduceAdd, Nat.reduceSub, Bool.false_eq_true, if_true, if_false, reduceIte, reduceCtorEq, walkM, Int.reduceBEq, Int.reduceBNe, Int.reduceLT, Int.reduceLE, decide_true, decide_false, eq_self, Bool.not_true, Bool.not_false, ↓ev_fa, ↓ev_field, ↓ev_load, ↓ev_store, stO_cells, List.all_cons, List.all_nil, Bool.and_self, Bool.and_true, Tryz.ntmps273, ta273, new, hget, hset, fget, fset, List.modify_zero_cons, List.modify_succ_cons, List.modify_cons, Nat.reduceLT, Nat.reduceEqDiff, Nat.lt_irrefl, Nat.not_lt_zero, Nat.lt_add_one, splice, zerosN, fillV, walkB, pureL, V.pure, Nat.reduceMul, Nat.reduceLeDiff, Nat.one_ne_zero, and_self, and_true, true_and, List.take_zero, List.drop_succ_cons, List.drop_zero, List.take_succ_cons, List.replicate_one, Bool.and_self, Bool.and_true, List.drop_nil, List.take_nil, Nat.le_refl, Nat.zero_add, Nat.zero_mul, Nat.one_mul, Nat.mul_one, len, w0]
  refine W.ul ?_
  refine W.loopS (kt := [0, 1, 3]) rfl (fun i : Nat => st273_1 (.yield fo so) (.iptr [v] 0) (.int .i64 ((i : Int) - 1))) (fun i => HS i ++ [[]]) (fun i => i ≤ l.length) (fun i => i) ?_ l.length (Nat.le_refl _) rfl rfl
  intro j hj
  cases j with
  | zero =>
    have c1 : decide ((((0 : Nat) : Int) - 1) ≥ 0) = false := rfl
    simp only [st273_1]
    simp only [tok_int, walk, walkL, evOp, quietOp, farOp, nov, gd, rho, putT, wr, Nat.reduceAdd, Nat.reduceSub, Bool.false_eq_true, if_true, if_false, reduceIte, reduceCtorEq, walkM, Int.reduceBEq, Int.reduceBNe, Int.reduceLT, Int.reduceLE, decide_true, decide_false, eq_self, Bool.not_true, Bool.not_false, ↓ev_fa, ↓ev_field, ↓ev_load, ↓ev_store, stO_cells, List.all_cons, List.all_nil, Bool.and_self, Bool.and_true, c1]
    refine W.done ?_
    simp only [tok_int, walk, walkL, evOp, quietOp, farOp, nov, gd, rho, putT, wr, Nat.reduceAdd, Nat.reduceSub, Bool.false_eq_true, if_true, if_false, reduceIte, reduceCtorEq, walkM, Int.reduceBEq, Int.reduceBNe, Int.reduceLT, Int.reduceLE, decide_true, decide_false, eq_self, Bool.not_true, Bool.not_false, ↓ev_fa, ↓ev_field, ↓ev_load, ↓ev_store, stO_cells, List.all_cons, List.all_nil, Bool.and_self, Bool.and_true]
    refine W.done (End.normal (v := .tuple []) rfl ⟨rfl, ?_⟩)
    have := popF_drop (H := HS 0) (G := [[]]) (v := .tuple []) rfl hw
    rw [hlen] at this
    exact this
  | succ i =>
    have e : ((i + 1 : Nat) : Int) - 1 = i := by omega
    have c1 : decide ((i : Int) ≥ 0) = true := by simp
    have at1 := hv.at (k := .i64) Tryz.underlying26 sz5 (by decide) (i := (i : Int)) (by omega) (by omega)
    have get1 : (ofBytes l)[(i : Int).toNat * 1]? = some (.int .u8 l[i].toNat) := by
      have : i < l.length := hj
      simp [ofBytes_get, this]
    have get1' : (ofBytes l)[(i : Int).toNat]? = some (.int .u8 l[i].toNat) := by simpa using get1
    have st := step i hj
    have w1 : (IntKind.i64).wrap ((i : Int) - 1) = (i : Int) - 1 := by rw [wrap_i64] <;> omega
    simp only [st273_1, e]
    simp only [tok_int, walk, walkL, evOp, quietOp, farOp, nov, gd, rho, putT, wr, Nat.reduceAdd, Nat.reduceSub, Bool.false_eq_true, if_true, if_false, reduceIte, reduceCtorEq, walkM, Int.reduceBEq, Int.reduceBNe, Int.reduceLT, Int.reduceLE, decide_true, decide_false, eq_self, Bool.not_true, Bool.not_false, ↓ev_fa, ↓ev_field, ↓ev_load, ↓ev_store, stO_cells, List.all_cons, List.all_nil, Bool.and_self, Bool.and_true, ta273, new, hget, hset, fget, fset, List.modify_zero_cons, List.modify_succ_cons, List.modify_cons, Nat.reduceLT, Nat.reduceEqDiff, Nat.lt_irrefl, Nat.not_lt_zero, Nat.lt_add_one, splice, zerosN, fillV, walkB, pureL, V.pure, Nat.reduceMul, Nat.reduceLeDiff, Nat.one_ne_zero, and_self, and_true, true_and, List.take_zero, List.drop_succ_cons, List.drop_zero, List.take_succ_cons, List.replicate_one, Bool.and_self, Bool.and_true, List.drop_nil, List.take_nil, Nat.le_refl, Nat.zero_add, Nat.zero_mul, Nat.one_mul, Nat.mul_one, c1, len, at1, get1, get1', rd5, st, us_round, ur_ret, w1]
    exact W.done ⟨i, rfl, rfl, by omega, by omega⟩

theorem sized_fz (k : Nat) : Fz Tryz.prog polD 138 [.int .i64 k] fun r => r = .bool (decide (0 < k) && decide (k ≤ 4)) := by
  refine fz_of Tryz.func138 rfl ?_
  have c1 : decide ((k : Int) > 0) = decide (0 < k) := by simp
  have c2 : decide ((k : Int) ≤ 4) = decide (k ≤ 4) := by simp; omega
  simp only [tok_int, walk, walkL, evOp, quietOp, farOp, nov, gd, rho, putT, wr, Nat.reduceAdd, Nat.reduceSub, Bool.false_eq_true, if_true, if_false, reduceIte, reduceCtorEq, walkM, Int.reduceBEq, Int.reduceBNe, Int.reduceLT, Int.reduceLE, decide_true, decide_false, eq_self, Bool.not_true, Bool.not_false, ↓ev_fa, ↓ev_field, ↓ev_load, ↓ev_store, stO_cells, List.all_cons, List.all_nil, Bool.and_self, Bool.and_true, Tryz.ntmps138, ta138, new, hget, hset, fget, fset, List.modify_zero_cons, List.modify_succ_cons, List.modify_cons, Nat.reduceLT, Nat.reduceEqDiff, Nat.lt_irrefl, Nat.not_lt_zero, Nat.lt_add_one, splice, zerosN, fillV, walkB, pureL, V.pure, Nat.reduceMul, Nat.reduceLeDiff, Nat.one_ne_zero, and_self, and_true, true_and, List.take_zero, List.drop_succ_cons, List.drop_zero, List.take_succ_cons, List.replicate_one, Bool.and_self, Bool.and_true, List.drop_nil, List.take_nil, Nat.le_refl, Nat.zero_add, Nat.zero_mul, Nat.one_mul, Nat.mul_one, c1, c2]
  cases h : decide (0 < k) with
  | true =>
    simp only [tok_int, walk, walkL, evOp, quietOp, farOp, nov, gd, rho, putT, wr, Nat.reduceAdd, Nat.reduceSub, Bool.false_eq_true, if_true, if_false, reduceIte, reduceCtorEq, walkM, Int.reduceBEq, Int.reduceBNe, Int.reduceLT, Int.reduceLE, decide_true, decide_false, eq_self, Bool.not_true, Bool.not_false, ↓ev_fa, ↓ev_field, ↓ev_load, ↓ev_store, stO_cells, List.all_cons, List.all_nil, Bool.and_self, Bool.and_true]
    exact W.done (EndZ.ret rfl rfl (by simp; omega))
  | false =>
    simp only [tok_int, walk, walkL, evOp, quietOp, farOp, nov, gd, rho, putT, wr, Nat.reduceAdd, Nat.reduceSub, Bool.false_eq_true, if_true, if_false, reduceIte, reduceCtorEq, walkM, Int.reduceBEq, Int.reduceBNe, Int.reduceLT, Int.reduceLE, decide_true, decide_false, eq_self, Bool.not_true, Bool.not_false, ↓ev_fa, ↓ev_field, ↓ev_load, ↓ev_store, stO_cells, List.all_cons, List.all_nil, Bool.and_self, Bool.and_true]
    exact W.done (EndZ.ret rfl rfl (by simp))

def numL : List UInt8 → Nat
  | [] => 0
  | b :: r => b.toNat + 256 * numL r
theorem numL_lt : ∀ l : List UInt8, numL l < 256 ^ l.length
  | [] => by decide
  | b :: r => by
    have := numL_lt r
    have hb := UInt8.toNat_lt b
    simp only [numL, List.length_cons, Nat.pow_succ]
    omega
def getR (l : List UInt8) (at_ k : Nat) : Nat × Nat :=
  if !(decide (0 < k) && decide (k ≤ 4)) || decide (l.length < at_) then (0, 2) else if l.length < at_ + k then (0, 8) else (numL ((l.drop at_).take k), 0)

theorem wf_loop {n : Nat} (h : 1 ≤ n) {s r f x : Nat} {T : List V} {G : AM.Heap} (hr : refsL (fun f _ => Nat.ble 1 f) T = false) {o : AM.O} (ho : o.refs (fun f _ => Nat.ble 1 f) = false) (hG : G = [[]] ∨ G = []) : WF ([[(s, o), (r, .loop 0 none f x T)]] ++ G) := by
  have h1 : clearH (fun f _ => Nat.ble 1 f) [[(s, o), (r, .loop 0 none f x T)]] = true := by
    have h0 : (O.loop 0 none f x T).refs (fun f _ => Nat.ble 1 f) = false := hr
    simp only [clearH, clearF, ho, h0]; rfl
  have h2 : WF [[(s, o), (r, O.loop 0 none f x T)]] := h1
  rcases hG with rfl | rfl
  · exact h2.app rfl
  · exact h2
theorem get_round (p : List UInt8) (n : Nat) (hn : numL p < 4294967296) (T : List V) (hT : T.length = 43) (h8 : T.getD 8 .bad = .ptr 0 8 0) (hr : refsL (fun f _ => Nat.ble 1 f) T = false) (i : Nat) (hi : i < p.length) (hnl : numL (p.drop i) < 4294967296) :
    callW Tryz.prog polD none [.yield 0 1000009, .int .i64 i, .int .u8 p[i].toNat] ([[(8, .cells [.int .i64 (numL (p.drop (i + 1)))]), (1000009, .loop 0 none 223 9 T)]] ++ [[]]) = some (.ret (.bool true), [[(8, .cells [.int .i64 (numL (p.drop i))]), (1000009, .loop 0 none 223 9 T)]] ++ [[]]) := by
  obtain ⟨r, H3, h1, rfl, rfl⟩ := round_of (P := Tryz.prog) (pol := polD) (fo := 0) (so := 1000009) (args := [.int .i64 i, .int .u8 p[i].toNat]) (H := [[(8, .cells [.int .i64 (numL (p.drop (i + 1)))]), (1000009, .loop 0 none 223 9 T)], []]) (p := none) (fL := 223) (rid := 9) (t0 := T)
    (R := fun r H3 => r = .ret (.bool true) ∧ H3 = [[(8, .cells [.int .i64 (numL (p.drop i))]), (1000009, .loop 0 none 223 9 T)], []]) rfl (loopAt_of Tryz.func223 rfl rfl) rfl (by
      have ed : p.drop i = p[i] :: p.drop (i + 1) := List.drop_eq_getElem_cons hi
      have en : numL (p.drop i) = p[i].toNat + 256 * numL (p.drop (i + 1)) := by rw [ed]; rfl
      change W (U _ _ _ _ _ _ _ .normal ((T.set 35 _).set 36 _) _) _
      have hL : ∀ a b x y, ((T.set a x).set b y).length = 43 := fun a b x y => by simp [hT]
      simp only [tok_int, walk, walkL, evOp, quietOp, farOp, nov, gd, rho, putT, wr, Nat.reduceAdd, Nat.reduceSub, Bool.false_eq_true, if_true, if_false, reduceIte, reduceCtorEq, walkM, Int.reduceBEq, Int.reduceBNe, Int.reduceLT, Int.reduceLE, decide_true, decide_false, eq_self, Bool.not_true, Bool.not_false, ↓ev_fa, ↓ev_field, ↓ev_load, ↓ev_store, stO_cells, List.all_cons, List.all_nil, Bool.and_self, Bool.and_true, new, hget, hset, fget, fset, List.modify_zero_cons, List.modify_succ_cons, List.modify_cons, Nat.reduceLT, Nat.reduceEqDiff, Nat.lt_irrefl, Nat.not_lt_zero, Nat.lt_add_one, splice, zerosN, fillV, walkB, pureL, V.pure, Nat.reduceMul, Nat.reduceLeDiff, Nat.one_ne_zero, and_self, and_true, true_and, List.take_zero, List.drop_succ_cons, List.drop_zero, List.take_succ_cons, List.replicate_one, Bool.and_self, Bool.and_true, List.drop_nil, List.take_nil, Nat.le_refl, Nat.zero_add, Nat.zero_mul, Nat.one_mul, Nat.mul_one, ta223, gs_eq, gs_ne, List.length_set, hT, h8, Nat.reduceBEq]
      refine W.done ⟨rfl, none, 223, 9, T, rfl, ?_⟩
      have nl : numL (p.drop (i + 1)) < 16777216 := by omega
      have hb := UInt8.toNat_lt p[i]
      have w1 : (IntKind.i64).wrap (256 * (numL (p.drop (i + 1)) : Int)) = ((256 * numL (p.drop (i + 1)) : Nat) : Int) := by rw [wrap_i64] <;> omega
      have w2 : (IntKind.i64).wrap (((256 * numL (p.drop (i + 1)) : Nat) : Int) + (p[i].toNat : Int)) = (numL (p.drop i) : Int) := by rw [wrap_i64] <;> omega
      have cv : ∀ g, convertV Tryz.prog g 5 3 (.int .u8 p[i].toNat) = some (.val (.int .i64 p[i].toNat) none) := fun g => by
        simp only [convertV, Tryz.underlying3, Tryz.underlying5]
        have : (IntKind.i64).wrap (p[i].toNat : Int) = p[i].toNat := by rw [wrap_i64] <;> omega
        simp only [this]
      simp only [tok_int, walk, walkL, evOp, quietOp, farOp, nov, gd, rho, putT, wr, Nat.reduceAdd, Nat.reduceSub, Bool.false_eq_true, if_true, if_false, reduceIte, reduceCtorEq, walkM, Int.reduceBEq, Int.reduceBNe, Int.reduceLT, Int.reduceLE, decide_true, decide_false, eq_self, Bool.not_true, Bool.not_false, ↓ev_fa, ↓ev_field, ↓ev_load, ↓ev_store, stO_cells, List.all_cons, List.all_nil, Bool.and_self, Bool.and_true, new, hget, hset, fget, fset, List.modify_zero_cons, List.modify_succ_cons, List.modify_cons, Nat.reduceLT, Nat.reduceEqDiff, Nat.lt_irrefl, Nat.not_lt_zero, Nat.lt_add_one, splice, zerosN, fillV, walkB, pureL, V.pure, Nat.reduceMul, Nat.reduceLeDiff, Nat.one_ne_zero, and_self, and_true, true_and, List.take_zero, List.drop_succ_cons, List.drop_zero, List.take_succ_cons, List.replicate_one, Bool.and_self, Bool.and_true, List.drop_nil, List.take_nil, Nat.le_refl, Nat.zero_add, Nat.zero_mul, Nat.one_mul, Nat.mul_one, ta223, gs_eq, gs_ne, List.length_set, hT, h8, Nat.reduceBEq, w1, w2, cv]
      refine W.done ⟨_, _, rfl, rfl, ?_⟩
      exact popF_drop (H := [[(8, .cells [.int .i64 (numL (p.drop i))]), (1000009, .loop 0 none 223 9 T)], []]) (G := [[]]) rfl (wf_loop (n := 1) (by omega) hr rfl (.inl rfl)))
  exact h1
theorem get_loop (w : V) (p : List UInt8) (hw : IsBytes w p) (hp : p.length ≤ 4) (T : List V) (hT : T.length = 43) (h8 : T.getD 8 .bad = .ptr 0 8 0) (hr : refsL (fun f _ => Nat.ble 1 f) T = false) :
    CW Tryz.prog polD 273 [.yield 0 1000009, .iptr [w] 0] [[(8, .cells [.int .i64 0]), (1000009, .loop 0 none 223 9 T)]] fun r H' => r = .ret (.tuple []) ∧ H' = [[(8, .cells [.int .i64 (numL p)]), (1000009, .loop 0 none 223 9 T)]] := by
  have lt : ∀ i, numL (p.drop i) < 4294967296 := fun i => by
    have h1 := numL_lt (p.drop i)
    have h2 : 256 ^ (p.drop i).length ≤ 256 ^ 4 := Nat.pow_le_pow_right (by decide) (by simp; omega)
    exact Nat.lt_of_lt_of_le h1 h2
  have := backw_cw w p hw (by omega) 0 1000009 (fun i => [[(8, .cells [.int .i64 (numL (p.drop i))]), (1000009, .loop 0 none 223 9 T)]]) (fun _ => rfl) (wf_loop (n := 1) (G := []) (by omega) hr rfl (.inr rfl))
    (fun i hi => get_round p 0 (lt 0) T hT h8 hr i hi (lt i))
  have e : numL (p.drop p.length) = 0 := by rw [List.drop_length]; rfl
  simp only [e] at this
  exact this
def getS (n a k : Nat) (p : List UInt8) : Nat × Nat :=
  if !(decide (0 < k) && decide (k ≤ 4)) || decide (n < a) then (0, 2) else if n < a + k then (0, 8) else (numL p, 0)
theorem get_sl (v : V) (cells : List V) (n : Nat) (hv : IsSl 1 v cells n) (hl : n ≤ 281474976710656) (a k : Nat) (ha : a ≤ 281474976710656) (hk : k ≤ 4294967296) (p : List UInt8) (hp : a + k ≤ n → k ≤ 4 → (cells.drop a).take k = ofBytes p) :
    Fz Tryz.prog polD 223 [v, .int .i64 a, .int .i64 k] fun r => r = .tuple [.int .i64 (getS n a k p).1, .int .i64 (getS n a k p).2] := by
  refine fz_of Tryz.func223 rfl ?_
  obtain ⟨m, rfl, hm⟩ := (sized_fz k).op (by rfl) rfl
  have hm' : ∀ s H, _ := fun s H => hm 223 0 s H rfl
  have len := hv.len Tryz.underlying26
  have c0 : decide ((a : Int) < 0) = false := by simp
  have c1 : decide ((a : Int) > n) = decide (n < a) := by simp
  have w1 : (IntKind.i64).wrap ((a : Int) + k) = ((a + k : Nat) : Int) := by rw [wrap_i64] <;> omega
  have c2 : decide (((a + k : Nat) : Int) > n) = decide (n < a + k) := by simp; omega
  generalize hs : (decide (0 < k) && decide (k ≤ 4)) = sz at *
  simp only [tok_int, walk, walkL, evOp, quietOp, farOp, nov, gd, rho, putT, wr, Nat.reduceAdd, Nat.reduceSub, Bool.false_eq_true, if_true, if_false, reduceIte, reduceCtorEq, walkM, Int.reduceBEq, Int.reduceBNe, Int.reduceLT, Int.reduceLE, decide_true, decide_false, eq_self, Bool.not_true, Bool.not_false, ↓ev_fa, ↓ev_field, ↓ev_load, ↓ev_store, stO_cells, List.all_cons, List.all_nil, Bool.and_self, Bool.and_true, Tryz.ntmps223, ta223, new, hget, hset, fget, fset, List.modify_zero_cons, List.modify_succ_cons, List.modify_cons, Nat.reduceLT, Nat.reduceEqDiff, Nat.lt_irrefl, Nat.not_lt_zero, Nat.lt_add_one, splice, zerosN, fillV, walkB, pureL, V.pure, Nat.reduceMul, Nat.reduceLeDiff, Nat.one_ne_zero, and_self, and_true, true_and, List.take_zero, List.drop_succ_cons, List.drop_zero, List.take_succ_cons, List.replicate_one, Bool.and_self, Bool.and_true, List.drop_nil, List.take_nil, Nat.le_refl, Nat.zero_add, Nat.zero_mul, Nat.one_mul, Nat.mul_one, hm', len]
  have err : ∀ (x : Nat) (T : List V), T.getD 6 .bad = .int .i64 0 → T.getD 7 .bad = .int .i64 x → getS n a k p = (0, x) → EndZ Tryz.prog Tryz.f223 (fun r => r = .tuple [.int .i64 (getS n a k p).1, .int .i64 (getS n a k p).2]) .ret T [[]] := by
    intro x T h1 h2 h3
    refine EndZ.ret (v := .tuple [.int .i64 0, .int .i64 x]) ?_ rfl (by rw [h3]; rfl)
    show (match resL Tryz.prog T [[]] [.tmp 6, .tmp 7] with | some [v] => some v | some vs => some (V.tuple vs) | none => none) = _
    simp only [resL, resOne, h1, h2]
  cases sz with
  | false =>
    simp only [tok_int, walk, walkL, evOp, quietOp, farOp, nov, gd, rho, putT, wr, Nat.reduceAdd, Nat.reduceSub, Bool.false_eq_true, if_true, if_false, reduceIte, reduceCtorEq, walkM, Int.reduceBEq, Int.reduceBNe, Int.reduceLT, Int.reduceLE, decide_true, decide_false, eq_self, Bool.not_true, Bool.not_false, ↓ev_fa, ↓ev_field, ↓ev_load, ↓ev_store, stO_cells, List.all_cons, List.all_nil, Bool.and_self, Bool.and_true]
    refine W.done (err 2 _ rfl rfl ?_)
    simp [getS, hs]
  | true =>
    simp only [tok_int, walk, walkL, evOp, quietOp, farOp, nov, gd, rho, putT, wr, Nat.reduceAdd, Nat.reduceSub, Bool.false_eq_true, if_true, if_false, reduceIte, reduceCtorEq, walkM, Int.reduceBEq, Int.reduceBNe, Int.reduceLT, Int.reduceLE, decide_true, decide_false, eq_self, Bool.not_true, Bool.not_false, ↓ev_fa, ↓ev_field, ↓ev_load, ↓ev_store, stO_cells, List.all_cons, List.all_nil, Bool.and_self, Bool.and_true, c0, c1, len]
    refine W.ite (fun h => ?_) (fun h => ?_)
    · simp only [tok_int, walk, walkL, evOp, quietOp, farOp, nov, gd, rho, putT, wr, Nat.reduceAdd, Nat.reduceSub, Bool.false_eq_true, if_true, if_false, reduceIte, reduceCtorEq, walkM, Int.reduceBEq, Int.reduceBNe, Int.reduceLT, Int.reduceLE, decide_true, decide_false, eq_self, Bool.not_true, Bool.not_false, ↓ev_fa, ↓ev_field, ↓ev_load, ↓ev_store, stO_cells, List.all_cons, List.all_nil, Bool.and_self, Bool.and_true]
      refine W.done (err 2 _ rfl rfl ?_)
      simp only [decide_eq_true_eq] at h
      simp [getS, hs, h]
    · have h' : ¬ n < a := by simpa using h
      simp only [tok_int, walk, walkL, evOp, quietOp, farOp, nov, gd, rho, putT, wr, Nat.reduceAdd, Nat.reduceSub, Bool.false_eq_true, if_true, if_false, reduceIte, reduceCtorEq, walkM, Int.reduceBEq, Int.reduceBNe, Int.reduceLT, Int.reduceLE, decide_true, decide_false, eq_self, Bool.not_true, Bool.not_false, ↓ev_fa, ↓ev_field, ↓ev_load, ↓ev_store, stO_cells, List.all_cons, List.all_nil, Bool.and_self, Bool.and_true, len, w1, c2]
      refine W.ite (fun h2 => ?_) (fun h2 => ?_)
      · simp only [tok_int, walk, walkL, evOp, quietOp, farOp, nov, gd, rho, putT, wr, Nat.reduceAdd, Nat.reduceSub, Bool.false_eq_true, if_true, if_false, reduceIte, reduceCtorEq, walkM, Int.reduceBEq, Int.reduceBNe, Int.reduceLT, Int.reduceLE, decide_true, decide_false, eq_self, Bool.not_true, Bool.not_false, ↓ev_fa, ↓ev_field, ↓ev_load, ↓ev_store, stO_cells, List.all_cons, List.all_nil, Bool.and_self, Bool.and_true]
        refine W.done (err 8 _ rfl rfl ?_)
        simp only [decide_eq_true_eq] at h2
        simp [getS, hs, h', h2]
      · have h2' : ¬ n < a + k := by simpa using h2
        have hg : getS n a k p = (numL p, 0) := by simp [getS, hs, h', h2']
        rw [hg]
        have kl : k ≤ 4 := by
          rw [Bool.and_eq_true, decide_eq_true_eq, decide_eq_true_eq] at hs; exact hs.2
        obtain ⟨w, sl, hw0⟩ := hv.cut (P := Tryz.prog) Tryz.underlying26 sz5 (some (a : Int)) (some ((a + k : Nat) : Int)) (by simp) (by simp only [Option.getD_some]; omega) (by simp only [Option.getD_some]; omega)
        have e1 : ((some ((a + k : Nat) : Int)).getD n).toNat - ((some (a : Int)).getD 0).toNat = k := by
          simp only [Option.getD_some, Int.toNat_natCast]; omega
        have e2 : ((some (a : Int)).getD 0).toNat * 1 = a := by simp
        rw [e1, e2, Nat.mul_one, hp (by omega) kl] at hw0
        simp only [Option.map_some] at sl
        have pl : p.length = k := by
          have := hw0.1
          rw [ofBytes_length] at this; omega
        have hw : IsBytes w p := by unfold IsBytes; rw [pl]; exact hw0
        obtain ⟨m3, rfl, hm3⟩ := (backw_fz w p hw).op (by rfl) (frzL_cons (hw.frz _) rfl)
        have hm3' : ∀ s H, _ := fun s H => hm3 223 0 s H rfl
        simp only [tok_int, walk, walkL, evOp, quietOp, farOp, nov, gd, rho, putT, wr, Nat.reduceAdd, Nat.reduceSub, Bool.false_eq_true, if_true, if_false, reduceIte, reduceCtorEq, walkM, Int.reduceBEq, Int.reduceBNe, Int.reduceLT, Int.reduceLE, decide_true, decide_false, eq_self, Bool.not_true, Bool.not_false, ↓ev_fa, ↓ev_field, ↓ev_load, ↓ev_store, stO_cells, List.all_cons, List.all_nil, Bool.and_self, Bool.and_true, new, hget, hset, fget, fset, List.modify_zero_cons, List.modify_succ_cons, List.modify_cons, Nat.reduceLT, Nat.reduceEqDiff, Nat.lt_irrefl, Nat.not_lt_zero, Nat.lt_add_one, splice, zerosN, fillV, walkB, pureL, V.pure, Nat.reduceMul, Nat.reduceLeDiff, Nat.one_ne_zero, and_self, and_true, true_and, List.take_zero, List.drop_succ_cons, List.drop_zero, List.take_succ_cons, List.replicate_one, Bool.and_self, Bool.and_true, List.drop_nil, List.take_nil, Nat.le_refl, Nat.zero_add, Nat.zero_mul, Nat.one_mul, Nat.mul_one, ta223, w1, sl, hm3']
        refine W.rfunc (rid := 9) rfl rfl rfl ?_
        refine (get_loop w p hw (by omega) _ rfl rfl ?_).mono ?_
        · simp only [refsL, V.refs, hv.noRefs, hw.noRefs]; rfl
        rintro r H2 ⟨rfl, rfl⟩
        refine ⟨_, rfl, ?_⟩
        rw [loopEnd_of (st := 0) (f := 223) (r := 9) rfl (by decide) (by simp only [refsL, V.refs, hv.noRefs, hw.noRefs]; rfl) rfl]
        have hH : ∀ T, List.modify [[(8, O.cells [V.int .i64 (numL p)]), (1000009, O.loop 0 none 223 9 T)]] 0 (fdel fun x => [loopSlot 9].contains x) = [[(8, O.cells [V.int .i64 (numL p)])]] := fun T => rfl
        rw [hH]
        simp only [tok_int, walk, walkL, evOp, quietOp, farOp, nov, gd, rho, putT, wr, Nat.reduceAdd, Nat.reduceSub, Bool.false_eq_true, if_true, if_false, reduceIte, reduceCtorEq, walkM, Int.reduceBEq, Int.reduceBNe, Int.reduceLT, Int.reduceLE, decide_true, decide_false, eq_self, Bool.not_true, Bool.not_false, ↓ev_fa, ↓ev_field, ↓ev_load, ↓ev_store, stO_cells, List.all_cons, List.all_nil, Bool.and_self, Bool.and_true, new, hget, hset, fget, fset, List.modify_zero_cons, List.modify_succ_cons, List.modify_cons, Nat.reduceLT, Nat.reduceEqDiff, Nat.lt_irrefl, Nat.not_lt_zero, Nat.lt_add_one, splice, zerosN, fillV, walkB, pureL, V.pure, Nat.reduceMul, Nat.reduceLeDiff, Nat.one_ne_zero, and_self, and_true, true_and, List.take_zero, List.drop_succ_cons, List.drop_zero, List.take_succ_cons, List.replicate_one, Bool.and_self, Bool.and_true, List.drop_nil, List.take_nil, Nat.le_refl, Nat.zero_add, Nat.zero_mul, Nat.one_mul, Nat.mul_one, ta223, us_round]
        exact W.done (EndZ.ret (v := .tuple [.int .i64 (numL p), .int .i64 0]) rfl rfl rfl)

theorem get_fz (v : V) (l : List UInt8) (hv : IsBytes v l) (hl : l.length ≤ 281474976710656) (a k : Nat) (ha : a ≤ 281474976710656) (hk : k ≤ 4294967296) :
    Fz Tryz.prog polD 223 [v, .int .i64 a, .int .i64 k] fun r => r = .tuple [.int .i64 (getR l a k).1, .int .i64 (getR l a k).2] :=
  get_sl v (ofBytes l) l.length hv hl a k ha hk ((l.drop a).take k) (fun _ _ => by simp [ofBytes])
theorem number_fz (v : V) (l : List UInt8) (hv : IsBytes v l) (hl : l.length = 4) : Fz Tryz.prog polD 220 [v] fun r => r = .int .u32 (numL l) := by
  refine fz_of Tryz.func220 rfl ?_
  obtain ⟨m, rfl, hm⟩ := (get_fz v l hv (by omega) 0 4 (by omega) (by omega)).op (by rfl) (frzL_cons (hv.frz _) rfl)
  have e : getR l 0 4 = (numL l, 0) := by
    have : l.take 4 = l := List.take_of_length_le (by omega)
    simp [getR, hl, this]
  have lt := numL_lt l
  rw [hl] at lt
  rw [e] at hm
  have hm' : ∀ s H, AM.callOp polD (callW Tryz.prog polD) 220 0 s 223 [v, .int .i64 0, .int .i64 4] H = some (.ret (.tuple [.int .i64 (numL l), .int .i64 0]), H) := fun s H => hm 220 0 s H rfl
  have cv : ∀ g, convertV Tryz.prog g 3 27 (.int .i64 (numL l)) = some (.val (.int .u32 (numL l)) none) := fun g => by
    simp only [convertV, Tryz.underlying3, Tryz.underlying27]
    have : (IntKind.u32).wrap (numL l : Int) = numL l := by rw [IntKind.wrap_u32]; omega
    simp only [this]
  simp only [tok_int, walk, walkL, evOp, quietOp, farOp, nov, gd, rho, putT, wr, Nat.reduceAdd, Nat.reduceSub, Bool.false_eq_true, if_true, if_false, reduceIte, reduceCtorEq, walkM, Int.reduceBEq, Int.reduceBNe, Int.reduceLT, Int.reduceLE, decide_true, decide_false, eq_self, Bool.not_true, Bool.not_false, ↓ev_fa, ↓ev_field, ↓ev_load, ↓ev_store, stO_cells, List.all_cons, List.all_nil, Bool.and_self, Bool.and_true, Tryz.ntmps220, ta220, new, hget, hset, fget, fset, List.modify_zero_cons, List.modify_succ_cons, List.modify_cons, Nat.reduceLT, Nat.reduceEqDiff, Nat.lt_irrefl, Nat.not_lt_zero, Nat.lt_add_one, splice, zerosN, fillV, walkB, pureL, V.pure, Nat.reduceMul, Nat.reduceLeDiff, Nat.one_ne_zero, and_self, and_true, true_and, List.take_zero, List.drop_succ_cons, List.drop_zero, List.take_succ_cons, List.replicate_one, Bool.and_self, Bool.and_true, List.drop_nil, List.take_nil, Nat.le_refl, Nat.zero_add, Nat.zero_mul, Nat.one_mul, Nat.mul_one, hm', cv]
  exact W.done (EndZ.ret (v := .int .u32 (numL l)) rfl rfl rfl)
end Go.Proofs.YtafhcdagifopeaaGreatDoor
end
section
/- slices.Clone, Clip, Chunk of bytes. -/
set_option maxRecDepth 100000
namespace Go.Proofs.YtafhcdagifopeaaGreatDoor
open Go.AM
attribute [local irreducible] U W

theorem cut3 {P : Program} {u e : TypeId} {v : V} {l : List UInt8} (hu : P.underlying u = some (.slice e)) (hs : sz P e = some 1) (h : IsBytes v l) {a b : Nat} (h1 : a ≤ b) (h2 : b ≤ l.length) (g : Get) :
    ∃ w, (∀ g, sliceV P g u v (some (.int .i64 a)) (some (.int .i64 b)) (some (.int .i64 b)) = some w) ∧ IsBytes w ((l.drop a).take (b - a)) ∧ ((w = .nilslice ∧ v = .nilslice) ∨ ∃ c n, w = .islice c n true) := by
  have ol : ∀ x : Nat, optInt (some (.int .i64 x)) = some (some (x : Int)) := fun x => rfl
  obtain ⟨hl, ⟨rfl, h0⟩ | ⟨f, rfl⟩⟩ := h
  · have hb : b = 0 := by omega
    have ha : a = 0 := by omega
    subst hb ha
    refine ⟨.nilslice, fun g => ?_, ?_, .inl ⟨rfl, rfl⟩⟩
    · simp only [sliceV, ol, hu, hs, cuts]; rfl
    · rw [Nat.sub_self, List.take_zero]; exact IsBytes.nil
  · refine ⟨.islice (((ofBytes l).drop (a * 1)).take ((b - a) * 1)) (b - a) true, fun g => ?_, ?_, .inr ⟨_, _, rfl⟩⟩
    · simp only [sliceV, ol, hu, hs, cutI, hl, if_true, cuts, Option.getD_some]
      rw [if_pos ⟨by omega, by omega, by omega, by omega, by omega, by omega, by simp⟩]
      simp
    · rw [Nat.mul_one, Nat.mul_one, ofBytes_drop, ofBytes_take]
      have : ((l.drop a).take (b - a)).length = b - a := by simp; omega
      have h3 := IsBytes.mk ((l.drop a).take (b - a)) true
      rwa [this] at h3

theorem chunk_fz (v : V) (l : List UInt8) (hv : IsBytes v l) (k : Nat) (hk : 0 < k) : Fz Tryz.prog polD 61 [v, .int .i64 k] fun r => r = .func (.func 105) [] [.iptr [v] 0, .iptr [.int .i64 k] 0] := by
  refine fz_of Tryz.func61 rfl ?_
  have c1 := hv.cells1
  have c2 : decide ((k : Int) < 1) = false := by simp; omega
  simp only [tok_int, walk, walkL, evOp, quietOp, farOp, nov, gd, rho, putT, wr, Nat.reduceAdd, Nat.reduceSub, Bool.false_eq_true, if_true, if_false, reduceIte, reduceCtorEq, walkM, Int.reduceBEq, Int.reduceBNe, Int.reduceLT, Int.reduceLE, decide_true, decide_false, eq_self, Bool.not_true, Bool.not_false, ↓ev_fa, ↓ev_field, ↓ev_load, ↓ev_store, stO_cells, List.all_cons, List.all_nil, Bool.and_self, Bool.and_true, Tryz.ntmps61, ta61, new, hget, hset, fget, fset, List.modify_zero_cons, List.modify_succ_cons, List.modify_cons, Nat.reduceLT, Nat.reduceEqDiff, Nat.lt_irrefl, Nat.not_lt_zero, Nat.lt_add_one, splice, zerosN, fillV, walkB, pureL, V.pure, Nat.reduceMul, Nat.reduceLeDiff, Nat.one_ne_zero, and_self, and_true, true_and, List.take_zero, List.drop_succ_cons, List.drop_zero, List.take_succ_cons, List.replicate_one, Bool.and_self, Bool.and_true, List.drop_nil, List.take_nil, Nat.le_refl, Nat.zero_add, Nat.zero_mul, Nat.one_mul, Nat.mul_one, c1, c2]
  have hf : frz (hget [[(2, O.cells [v]), (3, O.cells [.int .i64 k])]]) depth (.func (.func 105) [] [.ptr 0 2 0, .ptr 0 3 0]) = some (.func (.func 105) [] [.iptr [v] 0, .iptr [.int .i64 k] 0]) := by
    have e := hv.frz (g := hget [[(2, O.cells [v]), (3, O.cells [.int .i64 k])]]) 9
    have e1 : frz (hget [[(2, O.cells [v]), (3, O.cells [.int .i64 k])]]) 11 (.ptr 0 2 0) = some (.iptr [v] 0) := by
      show (frzL (frz (hget [[(2, O.cells [v]), (3, O.cells [.int .i64 k])]]) 10) [v]).map _ = _
      rw [frzL_cons e rfl]; rfl
    show (match frzL (frz _ 11) [], frzL (frz _ 11) [.ptr 0 2 0, .ptr 0 3 0] with | some a, some b => some (V.func _ a b) | _, _ => none) = _
    rw [frzL_cons e1 (frzL_cons (y := .iptr [.int .i64 k] 0) rfl rfl)]; rfl
  exact W.done (EndZ.ret (v := .func (.func 105) [] [.ptr 0 2 0, .ptr 0 3 0]) rfl hf rfl)

theorem chunk_cw (v : V) (l : List UInt8) (hv : IsBytes v l) (hl : l.length ≤ 281474976710656) (k : Nat) (hk : 0 < k) (hk2 : k ≤ 281474976710656) (m : Nat) (hm : l.length = k * m) (fo so : Nat) (HS : Nat → Heap) (hlen : ∀ i, (HS i).length = (HS 0).length) (hw : WF (HS m))
    (step : ∀ j, j < m → ∀ w, IsBytes w ((l.drop (k * j)).take k) → callW Tryz.prog polD none [.yield fo so, w] (HS j ++ [[]]) = some (.ret (.bool true), HS (j + 1) ++ [[]])) :
    CW Tryz.prog polD 105 [.yield fo so, .iptr [v] 0, .iptr [.int .i64 k] 0] (HS 0) fun r H' => r = .ret (.tuple []) ∧ H' = HS m := by
  refine cw_of Tryz.func105 rfl ?_
  have len := hv.len Tryz.underlying26
  simp only [tok_int, walk, walkL, evOp, quietOp, farOp, nov, gd, rho, putT, wr, Nat.reduceAdd, Nat.reduceSub, Bool.false_eq_true, if_true, if_false, reduceIte, reduceCtorEq, walkM, Int.reduceBEq, Int.reduceBNe, Int.reduceLT, Int.reduceLE, decide_true, decide_false, eq_self, Bool.not_true, Bool.not_false, ↓ev_fa, ↓ev_field, ↓ev_load, ↓ev_store, stO_cells, List.all_cons, List.all_nil, Bool.and_self, Bool.and_true, Tryz.ntmps105, ta105, new, hget, hset, fget, fset, List.modify_zero_cons, List.modify_succ_cons, List.modify_cons, Nat.reduceLT, Nat.reduceEqDiff, Nat.lt_irrefl, Nat.not_lt_zero, Nat.lt_add_one, splice, zerosN, fillV, walkB, pureL, V.pure, Nat.reduceMul, Nat.reduceLeDiff, Nat.one_ne_zero, and_self, and_true, true_and, List.take_zero, List.drop_succ_cons, List.drop_zero, List.take_succ_cons, List.replicate_one, Bool.and_self, Bool.and_true, List.drop_nil, List.take_nil, Nat.le_refl, Nat.zero_add, Nat.zero_mul, Nat.one_mul, Nat.mul_one]
  refine W.ul ?_
  refine W.loopS (kt := [0, 1, 2, 4]) rfl (fun j : Nat => st105_1 (.yield fo so) (.iptr [v] 0) (.iptr [.int .i64 k] 0) (.int .i64 ((k * j : Nat) : Int))) (fun j => HS j ++ [[]]) (fun j => j ≤ m) (fun j => m - j) ?_ 0 (Nat.zero_le _) rfl rfl
  intro j hj
  simp only [st105_1]
  by_cases h : j < m
  · have hle : k * j + k ≤ l.length := by
      have : k * (j + 1) ≤ k * m := Nat.mul_le_mul_left k h
      rw [Nat.mul_succ] at this; omega
    have c1 : decide (((k * j : Nat) : Int) < l.length) = true := by simp only [decide_eq_true_eq]; omega
    obtain ⟨w1, sl1, hw1⟩ := hv.cut (P := Tryz.prog) Tryz.underlying26 sz5 (some ((k * j : Nat) : Int)) none (by simp only [Option.getD_some]; omega) (by simp only [Option.getD_some, Option.getD_none]; omega) (by simp only [Option.getD_none]; omega)
    have len1 := hw1.len Tryz.underlying26
    have e1 : ((l.drop ((some ((k * j : Nat) : Int)).getD 0).toNat).take (((none : Option Int).getD l.length).toNat - ((some ((k * j : Nat) : Int)).getD 0).toNat)).length = l.length - k * j := by
      simp only [Option.getD_some, Option.getD_none, Int.toNat_natCast, List.length_take, List.length_drop]; omega
    rw [e1] at len1
    simp only [Option.map_some, Option.map_none] at sl1
    have mn : (if ((l.length - k * j : Nat) : Int) < (k : Int) then ((l.length - k * j : Nat) : Int) else (k : Int)) = k := if_neg (by omega)
    have w2 : (IntKind.i64).wrap (((k * j : Nat) : Int) + k) = ((k * j + k : Nat) : Int) := by rw [wrap_i64] <;> omega
    obtain ⟨w3, sl3, hw3, _⟩ := cut3 (P := Tryz.prog) Tryz.underlying26 sz5 hv (a := k * j) (b := k * j + k) (by omega) hle (fun _ _ => none)
    rw [Nat.add_sub_cancel_left] at hw3
    have st := step j h w3 hw3
    generalize hP : (k * j : Nat) = p at *
    generalize hQ : (p + k : Nat) = q at *
    simp only [tok_int, walk, walkL, evOp, quietOp, farOp, nov, gd, rho, putT, wr, Nat.reduceAdd, Nat.reduceSub, Bool.false_eq_true, if_true, if_false, reduceIte, reduceCtorEq, walkM, Int.reduceBEq, Int.reduceBNe, Int.reduceLT, Int.reduceLE, decide_true, decide_false, eq_self, Bool.not_true, Bool.not_false, ↓ev_fa, ↓ev_field, ↓ev_load, ↓ev_store, stO_cells, List.all_cons, List.all_nil, Bool.and_self, Bool.and_true, ta105, new, hget, hset, fget, fset, List.modify_zero_cons, List.modify_succ_cons, List.modify_cons, Nat.reduceLT, Nat.reduceEqDiff, Nat.lt_irrefl, Nat.not_lt_zero, Nat.lt_add_one, splice, zerosN, fillV, walkB, pureL, V.pure, Nat.reduceMul, Nat.reduceLeDiff, Nat.one_ne_zero, and_self, and_true, true_and, List.take_zero, List.drop_succ_cons, List.drop_zero, List.take_succ_cons, List.replicate_one, Bool.and_self, Bool.and_true, List.drop_nil, List.take_nil, Nat.le_refl, Nat.zero_add, Nat.zero_mul, Nat.one_mul, Nat.mul_one, c1, len, len1, sl1, sl3, mn, w2, st, us_round, ur_ret]
    refine W.opsK (by kernel_rfl) ?_
    simp only [tok_int, walk, walkL, evOp, quietOp, farOp, nov, gd, rho, putT, wr, Nat.reduceAdd, Nat.reduceSub, Bool.false_eq_true, if_true, if_false, reduceIte, reduceCtorEq, walkM, Int.reduceBEq, Int.reduceBNe, Int.reduceLT, Int.reduceLE, decide_true, decide_false, eq_self, Bool.not_true, Bool.not_false, ↓ev_fa, ↓ev_field, ↓ev_load, ↓ev_store, stO_cells, List.all_cons, List.all_nil, Bool.and_self, Bool.and_true, ta105, new, hget, hset, fget, fset, List.modify_zero_cons, List.modify_succ_cons, List.modify_cons, Nat.reduceLT, Nat.reduceEqDiff, Nat.lt_irrefl, Nat.not_lt_zero, Nat.lt_add_one, splice, zerosN, fillV, walkB, pureL, V.pure, Nat.reduceMul, Nat.reduceLeDiff, Nat.one_ne_zero, and_self, and_true, true_and, List.take_zero, List.drop_succ_cons, List.drop_zero, List.take_succ_cons, List.replicate_one, Bool.and_self, Bool.and_true, List.drop_nil, List.take_nil, Nat.le_refl, Nat.zero_add, Nat.zero_mul, Nat.one_mul, Nat.mul_one, c1, len, len1, sl1, sl3, mn, w2, st, us_round, ur_ret]
    refine W.done ⟨j + 1, ?_, rfl, h, by omega⟩
    have e2 : k * (j + 1) = q := by rw [Nat.mul_succ, hP, hQ]
    rw [e2]; rfl
  · have hjm : j = m := by omega
    subst hjm
    have c1 : decide (((k * j : Nat) : Int) < l.length) = false := by simp only [decide_eq_false_iff_not]; omega
    simp only [tok_int, walk, walkL, evOp, quietOp, farOp, nov, gd, rho, putT, wr, Nat.reduceAdd, Nat.reduceSub, Bool.false_eq_true, if_true, if_false, reduceIte, reduceCtorEq, walkM, Int.reduceBEq, Int.reduceBNe, Int.reduceLT, Int.reduceLE, decide_true, decide_false, eq_self, Bool.not_true, Bool.not_false, ↓ev_fa, ↓ev_field, ↓ev_load, ↓ev_store, stO_cells, List.all_cons, List.all_nil, Bool.and_self, Bool.and_true, ta105, new, hget, hset, fget, fset, List.modify_zero_cons, List.modify_succ_cons, List.modify_cons, Nat.reduceLT, Nat.reduceEqDiff, Nat.lt_irrefl, Nat.not_lt_zero, Nat.lt_add_one, splice, zerosN, fillV, walkB, pureL, V.pure, Nat.reduceMul, Nat.reduceLeDiff, Nat.one_ne_zero, and_self, and_true, true_and, List.take_zero, List.drop_succ_cons, List.drop_zero, List.take_succ_cons, List.replicate_one, Bool.and_self, Bool.and_true, List.drop_nil, List.take_nil, Nat.le_refl, Nat.zero_add, Nat.zero_mul, Nat.one_mul, Nat.mul_one, len, c1]
    refine W.done ?_
    simp only [tok_int, walk, walkL, evOp, quietOp, farOp, nov, gd, rho, putT, wr, Nat.reduceAdd, Nat.reduceSub, Bool.false_eq_true, if_true, if_false, reduceIte, reduceCtorEq, walkM, Int.reduceBEq, Int.reduceBNe, Int.reduceLT, Int.reduceLE, decide_true, decide_false, eq_self, Bool.not_true, Bool.not_false, ↓ev_fa, ↓ev_field, ↓ev_load, ↓ev_store, stO_cells, List.all_cons, List.all_nil, Bool.and_self, Bool.and_true]
    refine W.done (End.normal (v := .tuple []) rfl ⟨rfl, ?_⟩)
    have := popF_drop (H := HS j) (G := [[]]) (v := .tuple []) rfl hw
    rw [hlen] at this
    exact this
end Go.Proofs.YtafhcdagifopeaaGreatDoor
end
