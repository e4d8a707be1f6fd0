/- This file holds in one the texts DS, DS2; each says at its head what it proves. -/
import Derived.Test.YtafhcdagifopeaaGreatDoorT22
import Derived.Test.YtafhcdagifopeaaGreatDoorT29
import Derived.Test.YtafhcdagifopeaaGreatDoorT31
import Derived.Test.YtafhcdagifopeaaGreatDoorT35
set_option linter.unusedSimpArgs false
set_option linter.unusedVariables false
section
/- mix: words turned. -/
set_option maxRecDepth 100000
namespace Go.Proofs.YtafhcdagifopeaaGreatDoor
open Go.AM Go.AM.BM
attribute [local irreducible] U W

theorem wrapU (n : Nat) : (IntKind.u32).wrap (n : Int) = ((n % 4294967296 : Nat) : Int) := by
  simp [IntKind.wrap, IntKind.bits, IntKind.signed]
theorem ofIntU (n : Nat) (h : n < 4294967296) : (BitVec.ofInt 32 (n : Int)).toNat = n := by
  simp [BitVec.toNat_ofInt]; omega
theorem addU (a b : Nat) : binI .add .u32 a b = some (.int .u32 (add32 a b : Nat)) := by
  have : ((a : Int) + b) = ((a + b : Nat) : Int) := by omega
  simp only [binI]; rw [this, wrapU]; rfl
theorem xorU (a b : Nat) (ha : a < 4294967296) (hb : b < 4294967296) : binI .xor .u32 a b = some (.int .u32 (Nat.xor a b : Nat)) := by
  have e : (BitVec.ofInt (IntKind.u32).bits (a : Int) ^^^ BitVec.ofInt (IntKind.u32).bits (b : Int)).toNat = Nat.xor a b := by
    show (BitVec.ofInt 32 (a : Int) ^^^ BitVec.ofInt 32 (b : Int)).toNat = _
    rw [BitVec.toNat_xor, ofIntU a ha, ofIntU b hb]; rfl
  have l : Nat.xor a b < 4294967296 := Nat.xor_lt_two_pow (n := 32) ha hb
  simp only [binI]; rw [e, wrapU, Nat.mod_eq_of_lt l]
theorem orU (a b : Nat) (ha : a < 4294967296) (hb : b < 4294967296) : binI .or .u32 a b = some (.int .u32 (Nat.lor a b : Nat)) := by
  have e : (BitVec.ofInt (IntKind.u32).bits (a : Int) ||| BitVec.ofInt (IntKind.u32).bits (b : Int)).toNat = Nat.lor a b := by
    show (BitVec.ofInt 32 (a : Int) ||| BitVec.ofInt 32 (b : Int)).toNat = _
    rw [BitVec.toNat_or, ofIntU a ha, ofIntU b hb]; rfl
  have l : Nat.lor a b < 4294967296 := Nat.or_lt_two_pow (n := 32) ha hb
  simp only [binI]; rw [e, wrapU, Nat.mod_eq_of_lt l]
theorem shlU (a k : Nat) (hk : k < 32) : shiftI .shl .u32 a k = some (.int .u32 (Nat.mod (Nat.shiftLeft a k) 4294967296 : Nat)) := by
  have e : min (k : Int).toNat (IntKind.u32).bits = k := by
    have : (k : Int).toNat = k := rfl
    rw [this]; show min k 32 = k; omega
  have e2 : (a : Int) * 2 ^ k = ((Nat.shiftLeft a k : Nat) : Int) := by
    show _ = ((a <<< k : Nat) : Int)
    rw [Nat.shiftLeft_eq]; simp
  simp only [shiftI, e, e2, wrapU]
  rw [if_neg (by omega)]; rfl
theorem shrU (a k : Nat) (hk : k < 32) : shiftI .shr .u32 a k = some (.int .u32 (Nat.shiftRight a k : Nat)) := by
  have e : min (k : Int).toNat (IntKind.u32).bits = k := by
    have : (k : Int).toNat = k := rfl
    rw [this]; show min k 32 = k; omega
  have e2 : (a : Int).fdiv (2 ^ k) = ((Nat.shiftRight a k : Nat) : Int) := by
    show _ = ((a >>> k : Nat) : Int)
    rw [Nat.shiftRight_eq_div_pow, Int.fdiv_eq_ediv_of_nonneg _ (Int.le_of_lt (Int.pow_pos (by decide)))]; simp
  simp only [shiftI, e, e2]
  rw [if_neg (by omega)]
theorem rot_lt (x k : Nat) (hx : x < 4294967296) : rot32 x k < 4294967296 := by
  have a : Nat.mod (Nat.shiftLeft x k) 4294967296 < 4294967296 := Nat.mod_lt _ (by decide)
  have b : Nat.shiftRight x (32 - k) < 4294967296 := by
    have : Nat.shiftRight x (32 - k) = x >>> (32 - k) := rfl
    rw [this, Nat.shiftRight_eq_div_pow]
    exact Nat.lt_of_le_of_lt (Nat.div_le_self _ _) hx
  exact Nat.or_lt_two_pow (n := 32) a b
theorem rot_fz (x k : Nat) (hx : x < 4294967296) (hk : k = 15 ∨ k = 11 ∨ k = 9 ∨ k = 6) : Fz Tryz.prog polD 272 [.int .u32 x, .int .i64 k] fun r => r = .int .u32 (rot32 x k : Nat) := by
  refine fz_of Tryz.func272 rfl ?_
  have k32 : k < 32 := by omega
  have cv : ∀ g, convertV Tryz.prog g 3 203 (.int .i64 k) = some (.val (.int .u64 k) none) := fun g => by
    rcases hk with rfl | rfl | rfl | rfl <;> kernel_rfl
  have bA : ∀ p q, binV Tryz.prog .and 203 p q (.int .u64 k) (.int .u64 31) = some (.int .u64 k) := fun p q => by
    rcases hk with rfl | rfl | rfl | rfl <;> rfl
  have bS : ∀ p q, binV Tryz.prog .sub 203 p q (.int .u64 32) (.int .u64 k) = some (.int .u64 ((32 - k : Nat) : Int)) := fun p q => by
    rcases hk with rfl | rfl | rfl | rfl <;> rfl
  have b1 : ∀ p q, binV Tryz.prog .shl 27 p q (.int .u32 x) (.int .u64 k) = _ := fun p q => shlU x k k32
  have b2 : ∀ p q, binV Tryz.prog .shr 27 p q (.int .u32 x) (.int .u64 ((32 - k : Nat) : Int)) = _ := fun p q => shrU x (32 - k) (by omega)
  have b3 : ∀ p q, binV Tryz.prog .or 27 p q (.int .u32 (Nat.mod (Nat.shiftLeft x k) 4294967296 : Nat)) (.int .u32 (Nat.shiftRight x (32 - k) : Nat)) = _ := fun p q => orU _ _ (Nat.mod_lt _ (by decide)) (by
    have : Nat.shiftRight x (32 - k) = x >>> (32 - k) := rfl
    rw [this, Nat.shiftRight_eq_div_pow]
    exact Nat.lt_of_le_of_lt (Nat.div_le_self _ _) hx)
  generalize hr : (Nat.lor _ _ : Nat) = r at b3
  have er : rot32 x k = r := hr
  rw [er]
  generalize (Nat.mod (Nat.shiftLeft x k) 4294967296 : Nat) = u at b1 b3
  generalize (Nat.shiftRight x (32 - k) : Nat) = w at b2 b3
  generalize (32 - k : Nat) = m at bS b2
  simp only [tok_int, walk, walkL, evOp, quietOp, farOp, nov, gd, rho, putT, wr, Nat.reduceAdd, Nat.reduceSub, Bool.false_eq_true, if_true, if_false, reduceIte, reduceCtorEq, walkM, Int.reduceBEq, Int.reduceBNe, Int.reduceLT, Int.reduceLE, decide_true, decide_false, eq_self, Bool.not_true, Bool.not_false, ↓ev_fa, ↓ev_field, ↓ev_load, ↓ev_store, stO_cells, List.all_cons, List.all_nil, Bool.and_self, Bool.and_true, Tryz.ntmps272, ta272, new, hget, hset, fget, fset, List.modify_zero_cons, List.modify_succ_cons, List.modify_cons, Nat.reduceLT, Nat.reduceEqDiff, Nat.lt_irrefl, Nat.not_lt_zero, Nat.lt_add_one, splice, zerosN, fillV, walkB, pureL, V.pure, Nat.reduceMul, Nat.reduceLeDiff, Nat.one_ne_zero, and_self, and_true, true_and, List.take_zero, List.drop_succ_cons, List.drop_zero, List.take_succ_cons, List.replicate_one, Bool.and_self, Bool.and_true, List.drop_nil, List.take_nil, Nat.le_refl, Nat.zero_add, Nat.zero_mul, Nat.one_mul, Nat.mul_one, cv, bA, bS, b1, b2, b3]
  exact W.done (EndZ.ret rfl rfl rfl)
end Go.Proofs.YtafhcdagifopeaaGreatDoor
end
section
/- mix: words turned. -/
set_option maxRecDepth 100000
namespace Go.Proofs.YtafhcdagifopeaaGreatDoor
open Go.AM Go.AM.BM
attribute [local irreducible] U W

def u32 (n : Nat) : V := .int .u32 n
def wc (x : W4) : List V := [.int .u32 x.a, .int .u32 x.b, .int .u32 x.c, .int .u32 x.d]
def zW : List V := [.int .u32 0, .int .u32 0, .int .u32 0, .int .u32 0]
def wok (x : W4) : Prop := x.a < 4294967296 ∧ x.b < 4294967296 ∧ x.c < 4294967296 ∧ x.d < 4294967296

theorem force_eq {α : Type} (x : Nat) (k : Nat → α) : force x k = k x := by
  unfold force; cases x <;> rfl
theorem halfW_eq (far near : Nat) (x : W4) : halfW far near x = ⟨add32 x.a x.b, rot32 (Nat.xor x.b (add32 x.c (rot32 (Nat.xor x.d (add32 x.a x.b)) far))) near, add32 x.c (rot32 (Nat.xor x.d (add32 x.a x.b)) far), rot32 (Nat.xor x.d (add32 x.a x.b)) far⟩ := by
  unfold halfW
  simp only [force_eq]
theorem add32_lt (a b : Nat) : add32 a b < 4294967296 := Nat.mod_lt _ (by decide)
theorem xor_lt {a b : Nat} (ha : a < 4294967296) (hb : b < 4294967296) : Nat.xor a b < 4294967296 := Nat.xor_lt_two_pow (n := 32) ha hb
theorem halfW_ok {far near : Nat} {x : W4} (h : wok x) : wok (halfW far near x) := by
  obtain ⟨ha, hb, hc, hd⟩ := h
  rw [halfW_eq]
  have h1 := rot_lt _ far (xor_lt hd (add32_lt x.a x.b))
  exact ⟨add32_lt _ _, rot_lt _ _ (xor_lt hb (add32_lt _ _)), add32_lt _ _, h1⟩

theorem ia0 (f s : Nat) : indexAddrV Tryz.prog 247 (.ptr f s 0) (.int .i64 0) = some (.ptr f s 0) := by simp only [indexAddrV, Tryz.underlying247, sz27]; rfl
theorem ia1 (f s : Nat) : indexAddrV Tryz.prog 247 (.ptr f s 0) (.int .i64 1) = some (.ptr f s 1) := by simp only [indexAddrV, Tryz.underlying247, sz27]; rfl
theorem ia2 (f s : Nat) : indexAddrV Tryz.prog 247 (.ptr f s 0) (.int .i64 2) = some (.ptr f s 2) := by simp only [indexAddrV, Tryz.underlying247, sz27]; rfl
theorem ia3 (f s : Nat) : indexAddrV Tryz.prog 247 (.ptr f s 0) (.int .i64 3) = some (.ptr f s 3) := by simp only [indexAddrV, Tryz.underlying247, sz27]; rfl

theorem half_cw (far near : Nat) (hf : far = 15 ∨ far = 11 ∨ far = 9 ∨ far = 6) (hn : near = 15 ∨ near = 11 ∨ near = 9 ∨ near = 6) (x : W4) (hx : wok x) :
    CW Tryz.prog polD 271 [.int .i64 far, .int .i64 near, .ptr 0 1 0] [[(1, .cells (wc x)), (2, .cells zW)]] fun r H' => r = .ret (.tuple []) ∧ H' = [[(1, .cells (wc (halfW far near x))), (2, .cells zW)]] := by
  refine cw_of Tryz.func271 rfl ?_
  obtain ⟨a, b, c, d⟩ := x
  obtain ⟨ha, hb, hc, hd⟩ := hx
  simp only at ha hb hc hd
  have bA : ∀ p q (x y : Nat), binV Tryz.prog .add 27 p q (.int .u32 x) (.int .u32 y) = some (.int .u32 (add32 x y : Nat)) := fun p q x y => addU x y
  have x1 : ∀ p q, binV Tryz.prog .xor 27 p q (.int .u32 d) (.int .u32 (add32 a b : Nat)) = _ := fun p q => xorU d _ hd (add32_lt _ _)
  have l1 := xor_lt hd (add32_lt a b)
  rw [halfW_eq]
  simp only [wc] at *
  generalize (Nat.xor d (add32 a b) : Nat) = d1 at *
  obtain ⟨m, rfl, hm⟩ := (rot_fz d1 far l1 hf).op (by rfl) rfl
  have hm' : ∀ s H, _ := fun s H => hm 271 1 s H rfl
  have l2 := rot_lt d1 far l1
  generalize (rot32 d1 far : Nat) = d2 at *
  have x2 : ∀ p q, binV Tryz.prog .xor 27 p q (.int .u32 b) (.int .u32 (add32 c d2 : Nat)) = _ := fun p q => xorU b _ hb (add32_lt _ _)
  have l3 := xor_lt hb (add32_lt c d2)
  generalize (Nat.xor b (add32 c d2) : Nat) = b1 at *
  obtain ⟨m2, rfl, hm2⟩ := (rot_fz b1 near l3 hn).op (by rfl) rfl
  have hm2' : ∀ s H, _ := fun s H => hm2 271 1 s H rfl
  generalize (rot32 b1 near : Nat) = b2 at *
  simp only [tok_int, walk, walkL, evOp, quietOp, farOp, nov, gd, rho, putT, wr, Nat.reduceAdd, Nat.reduceSub, Bool.false_eq_true, if_true, if_false, reduceIte, reduceCtorEq, walkM, Int.reduceBEq, Int.reduceBNe, Int.reduceLT, Int.reduceLE, decide_true, decide_false, eq_self, Bool.not_true, Bool.not_false, ↓ev_fa, ↓ev_field, ↓ev_load, ↓ev_store, stO_cells, List.all_cons, List.all_nil, Bool.and_self, Bool.and_true, Tryz.ntmps271, ta271, new, hget, hset, fget, fset, List.modify_zero_cons, List.modify_succ_cons, List.modify_cons, Nat.reduceLT, Nat.reduceEqDiff, Nat.lt_irrefl, Nat.not_lt_zero, Nat.lt_add_one, splice, zerosN, fillV, walkB, pureL, V.pure, Nat.reduceMul, Nat.reduceLeDiff, Nat.one_ne_zero, and_self, and_true, true_and, List.take_zero, List.drop_succ_cons, List.drop_zero, List.take_succ_cons, List.replicate_one, Bool.and_self, Bool.and_true, List.drop_nil, List.take_nil, Nat.le_refl, Nat.zero_add, Nat.zero_mul, Nat.one_mul, Nat.mul_one, ia0, ia1, ia2, ia3, bA, x1, x2, hm', hm2']
  exact W.done (End.normal (v := .tuple []) rfl ⟨rfl, rfl⟩)

theorem sc_w (x : W4) : (wc x).all V.scalar = true := rfl
theorem ln_w (x : W4) : (wc x).length = 4 := rfl
theorem rd_w (x : W4) : readAt Tryz.prog 247 (wc x) 0 = some (.agg (wc x)) := by rw [rd247]; rfl
theorem sp_w (x y : W4) : splice (wc x) 0 (wc y) = wc y := rfl
theorem sp_z (y : W4) : splice zW 0 (wc y) = wc y := rfl
theorem tk_w (x : W4) : (wc x).take 4 = wc x := rfl
theorem ln_z : zW.length = 4 := rfl
theorem turned_fz (x : W4) (hx : wok x) : Fz Tryz.prog polD 250 [.agg (wc x)] fun r => r = .agg (wc (turnedW x)) := by
  refine fz_of Tryz.func250 rfl ?_
  obtain ⟨r1, K1, e1, rfl, rfl⟩ := half_cw 15 11 (by omega) (by omega) x hx
  obtain ⟨r2, K2, e2, rfl, rfl⟩ := half_cw 9 6 (by omega) (by omega) _ (halfW_ok (far := 15) (near := 11) hx)
  have c1 : ∀ s, AM.callOp polD (callW Tryz.prog polD) 250 0 s 271 [.int .i64 15, .int .i64 11, .ptr 0 1 0] [[(1, .cells (wc x)), (2, .cells zW)]] = _ := fun s => callOp_in rfl rfl rfl e1
  have c2 : ∀ s, AM.callOp polD (callW Tryz.prog polD) 250 0 s 271 [.int .i64 9, .int .i64 6, .ptr 0 1 0] [[(1, .cells (wc (halfW 15 11 x))), (2, .cells zW)]] = _ := fun s => callOp_in rfl rfl rfl e2
  have ez : ([.int .u32 0, .int .u32 0, .int .u32 0, .int .u32 0] : List V) = zW := rfl
  have et : turnedW x = halfW 9 6 (halfW 15 11 x) := rfl
  rw [et]
  simp only [tok_int, walk, walkL, evOp, quietOp, farOp, nov, gd, rho, putT, wr, Nat.reduceAdd, Nat.reduceSub, Bool.false_eq_true, if_true, if_false, reduceIte, reduceCtorEq, walkM, Int.reduceBEq, Int.reduceBNe, Int.reduceLT, Int.reduceLE, decide_true, decide_false, eq_self, Bool.not_true, Bool.not_false, ↓ev_fa, ↓ev_field, ↓ev_load, ↓ev_store, stO_cells, List.all_cons, List.all_nil, Bool.and_self, Bool.and_true, Tryz.ntmps250, ta250, new, hget, hset, fget, fset, List.modify_zero_cons, List.modify_succ_cons, List.modify_cons, Nat.reduceLT, Nat.reduceEqDiff, Nat.lt_irrefl, Nat.not_lt_zero, Nat.lt_add_one, splice, zerosN, fillV, walkB, pureL, V.pure, Nat.reduceMul, Nat.reduceLeDiff, Nat.one_ne_zero, and_self, and_true, true_and, List.take_zero, List.drop_succ_cons, List.drop_zero, List.take_succ_cons, List.replicate_one, Bool.and_self, Bool.and_true, List.drop_nil, List.take_nil, Nat.le_refl, Nat.zero_add, Nat.zero_mul, Nat.one_mul, Nat.mul_one, c1, c2, ez, sc_w, ln_w, rd_w, sp_w, sp_z, ln_z, tk_w]
  exact W.done (EndZ.ret (v := .agg (wc (halfW 9 6 (halfW 15 11 x)))) rfl rfl rfl)
theorem turnedW_ok {x : W4} (h : wok x) : wok (turnedW x) := halfW_ok (halfW_ok h)
theorem oftenW_succ (n : Nat) (x : W4) : oftenW (n + 1) x = oftenW n (turnedW x) := rfl
theorem oftenW_ok : ∀ (n : Nat) {x : W4}, wok x → wok (oftenW n x)
  | 0, _, h => h
  | n + 1, x, h => by rw [oftenW_succ]; exact oftenW_ok n (turnedW_ok h)

theorem often_fz (n : Nat) (hn : n < 1000) (x : W4) (hx : wok x) : Fz Tryz.prog polD 221 [.agg (wc x), .int .i64 n] fun r => r = .agg (wc (oftenW n x)) := by
  refine fz_of Tryz.func221 rfl ?_
  have ez : ([.int .u32 0, .int .u32 0, .int .u32 0, .int .u32 0] : List V) = zW := rfl
  simp only [tok_int, walk, walkL, evOp, quietOp, farOp, nov, gd, rho, putT, wr, Nat.reduceAdd, Nat.reduceSub, Bool.false_eq_true, if_true, if_false, reduceIte, reduceCtorEq, walkM, Int.reduceBEq, Int.reduceBNe, Int.reduceLT, Int.reduceLE, decide_true, decide_false, eq_self, Bool.not_true, Bool.not_false, ↓ev_fa, ↓ev_field, ↓ev_load, ↓ev_store, stO_cells, List.all_cons, List.all_nil, Bool.and_self, Bool.and_true, Tryz.ntmps221, ta221, new, hget, hset, fget, fset, List.modify_zero_cons, List.modify_succ_cons, List.modify_cons, Nat.reduceLT, Nat.reduceEqDiff, Nat.lt_irrefl, Nat.not_lt_zero, Nat.lt_add_one, splice, zerosN, fillV, walkB, pureL, V.pure, Nat.reduceMul, Nat.reduceLeDiff, Nat.one_ne_zero, and_self, and_true, true_and, List.take_zero, List.drop_succ_cons, List.drop_zero, List.take_succ_cons, List.replicate_one, Bool.and_self, Bool.and_true, List.drop_nil, List.take_nil, Nat.le_refl, Nat.zero_add, Nat.zero_mul, Nat.one_mul, Nat.mul_one, ez, sc_w, ln_w, rd_w, sp_w, sp_z, ln_z, tk_w]
  refine W.ul ?_
  refine W.loopS (kt := [2, 4, 5, 6]) rfl (fun a : Nat × W4 => st221_2 (.ptr 0 2 0) (.ptr 0 4 0) (.int .i64 n) (.int .i64 a.1)) (fun a => [[(2, .cells (wc a.2)), (4, .cells zW)]]) (fun a => a.1 ≤ n ∧ wok a.2 ∧ oftenW (n - a.1) a.2 = oftenW n x) (fun a => n - a.1) ?_ (0, x) ⟨by simp, hx, rfl⟩ rfl rfl
  rintro ⟨i, y⟩ ⟨hi, hy, he⟩
  simp only at hi hy he
  simp only [st221_2]
  by_cases h : i < n
  · have c1 : decide ((i : Int) < n) = true := by simp; omega
    obtain ⟨m, rfl, hm⟩ := (turned_fz y hy).op (by rfl) rfl
    have hm' : ∀ s H, _ := fun s H => hm 221 0 s H rfl
    have w1 : (IntKind.i64).wrap ((i : Int) + 1) = ((i + 1 : Nat) : Int) := by rw [wrap_i64] <;> omega
    simp only [tok_int, walk, walkL, evOp, quietOp, farOp, nov, gd, rho, putT, wr, Nat.reduceAdd, Nat.reduceSub, Bool.false_eq_true, if_true, if_false, reduceIte, reduceCtorEq, walkM, Int.reduceBEq, Int.reduceBNe, Int.reduceLT, Int.reduceLE, decide_true, decide_false, eq_self, Bool.not_true, Bool.not_false, ↓ev_fa, ↓ev_field, ↓ev_load, ↓ev_store, stO_cells, List.all_cons, List.all_nil, Bool.and_self, Bool.and_true, ta221, new, hget, hset, fget, fset, List.modify_zero_cons, List.modify_succ_cons, List.modify_cons, Nat.reduceLT, Nat.reduceEqDiff, Nat.lt_irrefl, Nat.not_lt_zero, Nat.lt_add_one, splice, zerosN, fillV, walkB, pureL, V.pure, Nat.reduceMul, Nat.reduceLeDiff, Nat.one_ne_zero, and_self, and_true, true_and, List.take_zero, List.drop_succ_cons, List.drop_zero, List.take_succ_cons, List.replicate_one, Bool.and_self, Bool.and_true, List.drop_nil, List.take_nil, Nat.le_refl, Nat.zero_add, Nat.zero_mul, Nat.one_mul, Nat.mul_one, c1, hm', w1, sc_w, ln_w, rd_w, sp_w, sp_z, ln_z, tk_w]
    refine W.done ⟨(i + 1, turnedW y), rfl, rfl, ⟨by simp only; omega, turnedW_ok hy, ?_⟩, by simp only; omega⟩
    rw [← he]
    have : n - i = (n - (i + 1)) + 1 := by omega
    simp only
    rw [this]; rfl
  · have c1 : decide ((i : Int) < n) = false := by simp; omega
    have hn' : n - i = 0 := by omega
    rw [hn'] at he
    have he' : y = oftenW n x := he
    subst he'
    simp only [tok_int, walk, walkL, evOp, quietOp, farOp, nov, gd, rho, putT, wr, Nat.reduceAdd, Nat.reduceSub, Bool.false_eq_true, if_true, if_false, reduceIte, reduceCtorEq, walkM, Int.reduceBEq, Int.reduceBNe, Int.reduceLT, Int.reduceLE, decide_true, decide_false, eq_self, Bool.not_true, Bool.not_false, ↓ev_fa, ↓ev_field, ↓ev_load, ↓ev_store, stO_cells, List.all_cons, List.all_nil, Bool.and_self, Bool.and_true, c1]
    refine W.done ?_
    simp only [tok_int, walk, walkL, evOp, quietOp, farOp, nov, gd, rho, putT, wr, Nat.reduceAdd, Nat.reduceSub, Bool.false_eq_true, if_true, if_false, reduceIte, reduceCtorEq, walkM, Int.reduceBEq, Int.reduceBNe, Int.reduceLT, Int.reduceLE, decide_true, decide_false, eq_self, Bool.not_true, Bool.not_false, ↓ev_fa, ↓ev_field, ↓ev_load, ↓ev_store, stO_cells, List.all_cons, List.all_nil, Bool.and_self, Bool.and_true, ta221, new, hget, hset, fget, fset, List.modify_zero_cons, List.modify_succ_cons, List.modify_cons, Nat.reduceLT, Nat.reduceEqDiff, Nat.lt_irrefl, Nat.not_lt_zero, Nat.lt_add_one, splice, zerosN, fillV, walkB, pureL, V.pure, Nat.reduceMul, Nat.reduceLeDiff, Nat.one_ne_zero, and_self, and_true, true_and, List.take_zero, List.drop_succ_cons, List.drop_zero, List.take_succ_cons, List.replicate_one, Bool.and_self, Bool.and_true, List.drop_nil, List.take_nil, Nat.le_refl, Nat.zero_add, Nat.zero_mul, Nat.one_mul, Nat.mul_one, c1, sc_w, ln_w, rd_w, sp_w, sp_z, ln_z, tk_w]
    exact W.done (EndZ.ret (v := .agg (wc (oftenW n x))) rfl rfl rfl)
end Go.Proofs.YtafhcdagifopeaaGreatDoor
end
