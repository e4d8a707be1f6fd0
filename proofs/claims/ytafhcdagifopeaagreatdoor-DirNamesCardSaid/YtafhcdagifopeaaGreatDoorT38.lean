/- This file holds in one the texts DI, DM; each says at its head what it proves. -/
import Derived.Test.YtafhcdagifopeaaGreatDoorT29
import Derived.Test.YtafhcdagifopeaaGreatDoorT31
import Derived.Test.YtafhcdagifopeaaGreatDoorT35
import Derived.Test.YtafhcdagifopeaaGreatDoorT36
import Derived.Test.YtafhcdagifopeaaGreatDoorT37
set_option linter.unusedSimpArgs false
set_option linter.unusedVariables false
section
/- mix: four. -/
set_option maxRecDepth 100000
namespace Go.Proofs.YtafhcdagifopeaaGreatDoor
open Go.AM Go.AM.BM
attribute [local irreducible] U W

theorem by8' : byt Tryz.prog 5 = some 1 := by kernel_rfl
theorem frz_gs {l : List UInt8} {f s n e : Nat} (g : Get) (m : Nat) : frz g (m + 2) (.gslice f s (ofBytes l) n e) = some (.islice (ofBytes l) n false) := by
  have : frzL (frz g (m + 1)) (ofBytes l) = some (ofBytes l) := frzL_ofBytes _ _ _
  show (frzL (frz g (m + 1)) (ofBytes l)).map _ = _
  rw [this]; rfl
theorem scl_fz (v : V) (l : List UInt8) (hv : IsBytes v l) (hl : l.length ≤ 1048576) : Fz Tryz.prog polD 139 [v] fun r => IsBytes r l := by
  refine fz_of Tryz.func139 rfl ?_
  by_cases hn : v = .nilslice
  · subst hn
    have h0 : l = [] := by
      obtain ⟨hlen, ⟨_, h⟩ | ⟨f, h⟩⟩ := hv
      · exact List.eq_nil_of_length_eq_zero h
      · cases h
    subst h0
    have e : ∀ p q, binV Tryz.prog .eql 26 p q .nilslice .nilslice = some (.bool true) := fun p q => rfl
    simp only [tok_int, walk, walkL, evOp, quietOp, farOp, nov, gd, rho, putT, wr, Nat.reduceAdd, Nat.reduceSub, Bool.false_eq_true, if_true, if_false, reduceIte, reduceCtorEq, walkM, Int.reduceBEq, Int.reduceBNe, Int.reduceLT, Int.reduceLE, decide_true, decide_false, eq_self, Bool.not_true, Bool.not_false, ↓ev_fa, ↓ev_field, ↓ev_load, ↓ev_store, stO_cells, List.all_cons, List.all_nil, Bool.and_self, Bool.and_true, Tryz.ntmps139, ta139, new, hget, hset, fget, fset, List.modify_zero_cons, List.modify_succ_cons, List.modify_cons, Nat.reduceLT, Nat.reduceEqDiff, Nat.lt_irrefl, Nat.not_lt_zero, Nat.lt_add_one, splice, zerosN, fillV, walkB, pureL, V.pure, Nat.reduceMul, Nat.reduceLeDiff, Nat.one_ne_zero, and_self, and_true, true_and, List.take_zero, List.drop_succ_cons, List.drop_zero, List.take_succ_cons, List.replicate_one, Bool.and_self, Bool.and_true, List.drop_nil, List.take_nil, Nat.le_refl, Nat.zero_add, Nat.zero_mul, Nat.one_mul, Nat.mul_one, e]
    exact W.done (EndZ.ret rfl rfl IsBytes.nil)
  · have hv' := hv
    obtain ⟨hlen, ⟨h, _⟩ | ⟨f, rfl⟩⟩ := hv
    · exact absurd h hn
    have sc := IsSl.sc (g := hget [[]]) hv'
    have mt7 : polD.mt 139 7 = false := rfl
    have mt5 : polD.mt 139 5 = false := rfl
    by_cases h0 : l = []
    · subst h0
      have ap : appendV Tryz.prog (polD.mt 139) 0 (hget [[]]) (some 7) 26 26 (.islice [] 0 true) (.islice (ofBytes []) 0 f) = some (.val (.islice [] 0 true) none) := by
        simp only [appendV, Tryz.underlying26, sz5, by8', zc5, appSrc, sc]; rfl
      simp only [tok_int, walk, walkL, evOp, quietOp, farOp, nov, gd, rho, putT, wr, Nat.reduceAdd, Nat.reduceSub, Bool.false_eq_true, if_true, if_false, reduceIte, reduceCtorEq, walkM, Int.reduceBEq, Int.reduceBNe, Int.reduceLT, Int.reduceLE, decide_true, decide_false, eq_self, Bool.not_true, Bool.not_false, ↓ev_fa, ↓ev_field, ↓ev_load, ↓ev_store, stO_cells, List.all_cons, List.all_nil, Bool.and_self, Bool.and_true, Tryz.ntmps139, ta139, new, hget, hset, fget, fset, List.modify_zero_cons, List.modify_succ_cons, List.modify_cons, Nat.reduceLT, Nat.reduceEqDiff, Nat.lt_irrefl, Nat.not_lt_zero, Nat.lt_add_one, splice, zerosN, fillV, walkB, pureL, V.pure, Nat.reduceMul, Nat.reduceLeDiff, Nat.one_ne_zero, and_self, and_true, true_and, List.take_zero, List.drop_succ_cons, List.drop_zero, List.take_succ_cons, List.replicate_one, Bool.and_self, Bool.and_true, List.drop_nil, List.take_nil, Nat.le_refl, Nat.zero_add, Nat.zero_mul, Nat.one_mul, Nat.mul_one, eq_islice Tryz.underlying26, bi_append, ap, mt7, mt5, Tryz.underlying26]
      refine W.done ?_
      refine EndZ.ret (v := .islice [] 0 true) (v' := .islice [] 0 true) rfl rfl ?_
      exact IsBytes.mk [] true
    · have hp : 0 < l.length := List.length_pos_iff.2 h0
      have ap : appendV Tryz.prog (polD.mt 139) 0 (hget [[]]) (some 7) 26 26 (.islice [] 0 true) (.islice (ofBytes l) l.length f) = some (.val (.gslice 0 7 (ofBytes l) l.length 1) (some (0, 7, .grow l.length))) := by
        rw [app_full Tryz.underlying26 sz5 by8' zc5 rfl Tryz.underlying26 sc hp rfl (roomy_of (by omega) (by omega)), List.nil_append, Nat.zero_add, grown_im mt7 (pureL_ofBytes l) rfl]
      simp only [tok_int, walk, walkL, evOp, quietOp, farOp, nov, gd, rho, putT, wr, Nat.reduceAdd, Nat.reduceSub, Bool.false_eq_true, if_true, if_false, reduceIte, reduceCtorEq, walkM, Int.reduceBEq, Int.reduceBNe, Int.reduceLT, Int.reduceLE, decide_true, decide_false, eq_self, Bool.not_true, Bool.not_false, ↓ev_fa, ↓ev_field, ↓ev_load, ↓ev_store, stO_cells, List.all_cons, List.all_nil, Bool.and_self, Bool.and_true, Tryz.ntmps139, ta139, new, hget, hset, fget, fset, List.modify_zero_cons, List.modify_succ_cons, List.modify_cons, Nat.reduceLT, Nat.reduceEqDiff, Nat.lt_irrefl, Nat.not_lt_zero, Nat.lt_add_one, splice, zerosN, fillV, walkB, pureL, V.pure, Nat.reduceMul, Nat.reduceLeDiff, Nat.one_ne_zero, and_self, and_true, true_and, List.take_zero, List.drop_succ_cons, List.drop_zero, List.take_succ_cons, List.replicate_one, Bool.and_self, Bool.and_true, List.drop_nil, List.take_nil, Nat.le_refl, Nat.zero_add, Nat.zero_mul, Nat.one_mul, Nat.mul_one, eq_islice Tryz.underlying26, bi_append, ap, mt7, mt5, Tryz.underlying26]
      refine W.done (EndZ.ret (v := .gslice 0 7 (ofBytes l) l.length 1) rfl ?_ (IsBytes.mk l false))
      exact frz_gs _ _
theorem clip_fz (v : V) (l : List UInt8) (hv : IsBytes v l) (hl : l.length ≤ 1048576) : Fz Tryz.prog polD 219 [v] fun r => IsBytes r l ∧ (r = .nilslice ∨ ∃ c n, r = .islice c n true) := by
  refine fz_of Tryz.func219 rfl ?_
  have len := hv.len Tryz.underlying26
  have h2 : ∃ w, (∀ g, sliceV Tryz.prog g 26 v none (some (.int .i64 l.length)) (some (.int .i64 l.length)) = some w) ∧ IsBytes w l ∧ (w = .nilslice ∨ ∃ c n, w = .islice c n true) := by
    have ol : ∀ x : Nat, optInt (some (.int .i64 x)) = some (some (x : Int)) := fun x => rfl
    obtain ⟨hl', ⟨rfl, h0⟩ | ⟨f, rfl⟩⟩ := hv
    · have e : l = [] := List.eq_nil_of_length_eq_zero h0
      subst e
      refine ⟨.nilslice, fun g => ?_, IsBytes.nil, .inl rfl⟩
      simp only [sliceV, ol, Tryz.underlying26, sz5, cuts]; rfl
    · refine ⟨.islice (ofBytes l) l.length true, fun g => ?_, IsBytes.mk _ _, .inr ⟨_, _, rfl⟩⟩
      have on : optInt none = some none := rfl
      simp only [sliceV, ol, on, Tryz.underlying26, sz5, cutI, hl', if_true, cuts, Option.getD_some, Option.getD_none]
      rw [if_pos ⟨by omega, by omega, by omega, by omega, by omega, by omega, by simp⟩]
      have : ((ofBytes l).take l.length) = ofBytes l := List.take_of_length_le (by rw [ofBytes_length]; exact Nat.le_refl _)
      simp [this]
  obtain ⟨w, sl, hw, hc⟩ := h2
  simp only [tok_int, walk, walkL, evOp, quietOp, farOp, nov, gd, rho, putT, wr, Nat.reduceAdd, Nat.reduceSub, Bool.false_eq_true, if_true, if_false, reduceIte, reduceCtorEq, walkM, Int.reduceBEq, Int.reduceBNe, Int.reduceLT, Int.reduceLE, decide_true, decide_false, eq_self, Bool.not_true, Bool.not_false, ↓ev_fa, ↓ev_field, ↓ev_load, ↓ev_store, stO_cells, List.all_cons, List.all_nil, Bool.and_self, Bool.and_true, Tryz.ntmps219, ta219, new, hget, hset, fget, fset, List.modify_zero_cons, List.modify_succ_cons, List.modify_cons, Nat.reduceLT, Nat.reduceEqDiff, Nat.lt_irrefl, Nat.not_lt_zero, Nat.lt_add_one, splice, zerosN, fillV, walkB, pureL, V.pure, Nat.reduceMul, Nat.reduceLeDiff, Nat.one_ne_zero, and_self, and_true, true_and, List.take_zero, List.drop_succ_cons, List.drop_zero, List.take_succ_cons, List.replicate_one, Bool.and_self, Bool.and_true, List.drop_nil, List.take_nil, Nat.le_refl, Nat.zero_add, Nat.zero_mul, Nat.one_mul, Nat.mul_one, len, sl]
  exact W.done (EndZ.ret (v := w) rfl (hw.frz _) ⟨hw, hc⟩)

def padB (l : List UInt8) (k : Nat) : List UInt8 := l ++ 1 :: List.replicate k 0
theorem padB_length (l : List UInt8) (k : Nat) : (padB l k).length = l.length + 1 + k := by simp [padB]; omega
theorem padB_succ (l : List UInt8) (k : Nat) : padB l k ++ [0] = padB l (k + 1) := by
  simp [padB, List.replicate_succ']
noncomputable def stepP (y : W4) (p : List UInt8) : W4 := oftenW 4 ⟨Nat.xor y.a (numL (p.take 4)), y.b, Nat.xor y.c (numL (p.drop 4)), y.d⟩
noncomputable def foldP (l : List UInt8) : Nat → W4
  | 0 => ⟨1, 2, 3, 4⟩
  | j + 1 => stepP (foldP l j) ((l.drop (8 * j)).take 8)
theorem numL4 {l : List UInt8} (h : l.length = 4) : numL l < 4294967296 := by
  have := numL_lt l
  rw [h] at this; exact this
theorem stepP_ok {y : W4} {p : List UInt8} (hy : wok y) (hp : p.length = 8) : wok (stepP y p) := by
  obtain ⟨h1, h2, h3, h4⟩ := hy
  exact oftenW_ok 4 ⟨xor_lt h1 (numL4 (by simp; omega)), h2, xor_lt h3 (numL4 (by simp; omega)), h4⟩

theorem wf_four (z : W4) (n : Nat) (T : List V) {G : AM.Heap} (hr : refsL (fun f _ => Nat.ble 1 f) T = false) (hG : G = [[]] ∨ G = []) : WF ([[(2, .cells zW), (3, .cells [.int .u32 z.a, .int .u32 z.b, .int .u32 z.c, .int .u32 z.d]), (11, .grow n), (1000006, .loop 0 none 189 6 T)]] ++ G) := by
  have h2 : WF [[(2, .cells zW), (3, .cells [.int .u32 z.a, .int .u32 z.b, .int .u32 z.c, .int .u32 z.d]), (11, .grow n), (1000006, .loop 0 none 189 6 T)]] := by
    have h0 : (O.loop 0 none 189 6 T).refs (fun f _ => Nat.ble 1 f) = false := hr
    show clearH (fun f _ => Nat.ble 1 f) _ = true
    simp only [clearH, clearF, h0]; rfl
  rcases hG with rfl | rfl
  · exact h2.app rfl
  · exact h2
theorem four_round (y : W4) (hy : wok y) (n : Nat) (T : List V) (hT : T.length = 47) (h3 : T.getD 3 .bad = .ptr 0 3 0) (hr : refsL (fun f _ => Nat.ble 1 f) T = false) (w : V) (p : List UInt8) (hw : IsBytes w p) (hp : p.length = 8) :
    callW Tryz.prog polD none [.yield 0 1000006, w] ([[(2, .cells zW), (3, .cells (wc y)), (11, .grow n), (1000006, .loop 0 none 189 6 T)]] ++ [[]]) = some (.ret (.bool true), [[(2, .cells zW), (3, .cells (wc (stepP y p))), (11, .grow n), (1000006, .loop 0 none 189 6 T)]] ++ [[]]) := by
  obtain ⟨r, H3, h1, rfl, rfl⟩ := round_of (P := Tryz.prog) (pol := polD) (fo := 0) (so := 1000006) (args := [w]) (H := [[(2, .cells zW), (3, .cells (wc y)), (11, .grow n), (1000006, .loop 0 none 189 6 T)], []]) (p := none) (fL := 189) (rid := 6) (t0 := T)
    (R := fun r H3 => r = .ret (.bool true) ∧ H3 = [[(2, .cells zW), (3, .cells (wc (stepP y p))), (11, .grow n), (1000006, .loop 0 none 189 6 T)], []]) rfl (loopAt_of Tryz.func189 rfl rfl) rfl (by
      change W (U _ _ _ _ _ _ _ .normal (T.set 21 _) _) _
      have hy' := hy
      obtain ⟨ya, yb, yc, yd⟩ := hy'
      obtain ⟨w1, sl1, hw1⟩ := hw.cut (P := Tryz.prog) Tryz.underlying26 sz5 none (some 4) (by simp) (by simp) (by simp only [Option.getD_some]; omega)
      obtain ⟨w2, sl2, hw2⟩ := hw.cut (P := Tryz.prog) Tryz.underlying26 sz5 (some 4) none (by simp) (by simp only [Option.getD_some, Option.getD_none]; omega) (by simp)
      have e1 : (p.drop ((none : Option Int).getD 0).toNat).take (((some (4 : Int)).getD p.length).toNat - ((none : Option Int).getD 0).toNat) = p.take 4 := by simp
      have e2 : (p.drop ((some (4 : Int)).getD 0).toNat).take (((none : Option Int).getD p.length).toNat - ((some (4 : Int)).getD 0).toNat) = p.drop 4 := by
        simp only [Option.getD_some, Option.getD_none, Int.toNat_natCast]
        rw [List.take_of_length_le (by simp)]; rfl
      rw [e1] at hw1
      rw [e2] at hw2
      simp only [Option.map_some, Option.map_none] at sl1 sl2
      obtain ⟨m1, rfl, hm1⟩ := (number_fz w1 _ hw1 (by simp; omega)).op (by rfl) (frzL_cons (hw1.frz _) rfl)
      obtain ⟨m2, rfl, hm2⟩ := (number_fz w2 _ hw2 (by simp; omega)).op (by rfl) (frzL_cons (hw2.frz _) rfl)
      have hm1' : ∀ s H, _ := fun s H => hm1 189 2 s H rfl
      have hm2' : ∀ s H, _ := fun s H => hm2 189 2 s H rfl
      have l1 : numL (p.take 4) < 4294967296 := numL4 (by simp; omega)
      have l2 : numL (p.drop 4) < 4294967296 := numL4 (by simp; omega)
      have b1 : ∀ a b, binV Tryz.prog .xor 27 a b (.int .u32 y.a) (.int .u32 (numL (p.take 4))) = _ := fun a b => xorU y.a _ ya l1
      have b2 : ∀ a b, binV Tryz.prog .xor 27 a b (.int .u32 y.c) (.int .u32 (numL (p.drop 4))) = _ := fun a b => xorU y.c _ yc l2
      have x1 := xor_lt ya l1
      have x2 := xor_lt yc l2
      have es : stepP y p = oftenW 4 ⟨Nat.xor y.a (numL (p.take 4)), y.b, Nat.xor y.c (numL (p.drop 4)), y.d⟩ := rfl
      rw [es]
      generalize (Nat.xor y.a (numL (p.take 4)) : Nat) = xa at *
      generalize (Nat.xor y.c (numL (p.drop 4)) : Nat) = xc at *
      generalize (numL (p.take 4) : Nat) = n1 at *
      generalize (numL (p.drop 4) : Nat) = n2 at *
      obtain ⟨m3, rfl, hm3⟩ := (often_fz 4 (by omega) ⟨xa, y.b, xc, y.d⟩ ⟨x1, yb, x2, yd⟩).op (by rfl) rfl
      have hm3' : ∀ s H, AM.callOp polD (callW Tryz.prog polD) 189 2 s 221 [.agg [.int .u32 xa, .int .u32 y.b, .int .u32 xc, .int .u32 y.d], .int .i64 4] H = _ := fun s H => hm3 189 2 s H rfl
      generalize oftenW 4 ⟨xa, y.b, xc, y.d⟩ = z at *
      obtain ⟨c, d, e, f⟩ := y
      simp only [wc] at *
      simp only [tok_int, walk, walkL, evOp, quietOp, farOp, nov, gd, rho, putT, wr, Nat.reduceAdd, Nat.reduceSub, Bool.false_eq_true, if_true, if_false, reduceIte, reduceCtorEq, walkM, Int.reduceBEq, Int.reduceBNe, Int.reduceLT, Int.reduceLE, decide_true, decide_false, eq_self, Bool.not_true, Bool.not_false, ↓ev_fa, ↓ev_field, ↓ev_load, ↓ev_store, stO_cells, List.all_cons, List.all_nil, Bool.and_self, Bool.and_true, new, hget, hset, fget, fset, List.modify_zero_cons, List.modify_succ_cons, List.modify_cons, Nat.reduceLT, Nat.reduceEqDiff, Nat.lt_irrefl, Nat.not_lt_zero, Nat.lt_add_one, splice, zerosN, fillV, walkB, pureL, V.pure, Nat.reduceMul, Nat.reduceLeDiff, Nat.one_ne_zero, and_self, and_true, true_and, List.take_zero, List.drop_succ_cons, List.drop_zero, List.take_succ_cons, List.replicate_one, Bool.and_self, Bool.and_true, List.drop_nil, List.take_nil, Nat.le_refl, Nat.zero_add, Nat.zero_mul, Nat.one_mul, Nat.mul_one, ta189, gs_eq, gs_ne, List.length_set, hT, h3, Nat.reduceBEq]
      refine W.done ⟨rfl, none, 189, 6, T, rfl, ?_⟩
      simp only [tok_int, walk, walkL, evOp, quietOp, farOp, nov, gd, rho, putT, wr, Nat.reduceAdd, Nat.reduceSub, Bool.false_eq_true, if_true, if_false, reduceIte, reduceCtorEq, walkM, Int.reduceBEq, Int.reduceBNe, Int.reduceLT, Int.reduceLE, decide_true, decide_false, eq_self, Bool.not_true, Bool.not_false, ↓ev_fa, ↓ev_field, ↓ev_load, ↓ev_store, stO_cells, List.all_cons, List.all_nil, Bool.and_self, Bool.and_true, new, hget, hset, fget, fset, List.modify_zero_cons, List.modify_succ_cons, List.modify_cons, Nat.reduceLT, Nat.reduceEqDiff, Nat.lt_irrefl, Nat.not_lt_zero, Nat.lt_add_one, splice, zerosN, fillV, walkB, pureL, V.pure, Nat.reduceMul, Nat.reduceLeDiff, Nat.one_ne_zero, and_self, and_true, true_and, List.take_zero, List.drop_succ_cons, List.drop_zero, List.take_succ_cons, List.replicate_one, Bool.and_self, Bool.and_true, List.drop_nil, List.take_nil, Nat.le_refl, Nat.zero_add, Nat.zero_mul, Nat.one_mul, Nat.mul_one, ta189, gs_eq, gs_ne, List.length_set, hT, h3, Nat.reduceBEq, ia0, ia1, ia2, ia3, sl1, sl2, hm1', hm2', hm3', b1, b2]
      refine W.opsK (by kernel_rfl) ?_
      simp only [tok_int, walk, walkL, evOp, quietOp, farOp, nov, gd, rho, putT, wr, Nat.reduceAdd, Nat.reduceSub, Bool.false_eq_true, if_true, if_false, reduceIte, reduceCtorEq, walkM, Int.reduceBEq, Int.reduceBNe, Int.reduceLT, Int.reduceLE, decide_true, decide_false, eq_self, Bool.not_true, Bool.not_false, ↓ev_fa, ↓ev_field, ↓ev_load, ↓ev_store, stO_cells, List.all_cons, List.all_nil, Bool.and_self, Bool.and_true, new, hget, hset, fget, fset, List.modify_zero_cons, List.modify_succ_cons, List.modify_cons, Nat.reduceLT, Nat.reduceEqDiff, Nat.lt_irrefl, Nat.not_lt_zero, Nat.lt_add_one, splice, zerosN, fillV, walkB, pureL, V.pure, Nat.reduceMul, Nat.reduceLeDiff, Nat.one_ne_zero, and_self, and_true, true_and, List.take_zero, List.drop_succ_cons, List.drop_zero, List.take_succ_cons, List.replicate_one, Bool.and_self, Bool.and_true, List.drop_nil, List.take_nil, Nat.le_refl, Nat.zero_add, Nat.zero_mul, Nat.one_mul, Nat.mul_one, ta189, gs_eq, gs_ne, List.length_set, hT, h3, Nat.reduceBEq, ia0, ia1, ia2, ia3, sl1, sl2, hm1', hm2', hm3', b1, b2]
      refine W.opsK (by kernel_rfl) ?_
      simp only [tok_int, walk, walkL, evOp, quietOp, farOp, nov, gd, rho, putT, wr, Nat.reduceAdd, Nat.reduceSub, Bool.false_eq_true, if_true, if_false, reduceIte, reduceCtorEq, walkM, Int.reduceBEq, Int.reduceBNe, Int.reduceLT, Int.reduceLE, decide_true, decide_false, eq_self, Bool.not_true, Bool.not_false, ↓ev_fa, ↓ev_field, ↓ev_load, ↓ev_store, stO_cells, List.all_cons, List.all_nil, Bool.and_self, Bool.and_true, new, hget, hset, fget, fset, List.modify_zero_cons, List.modify_succ_cons, List.modify_cons, Nat.reduceLT, Nat.reduceEqDiff, Nat.lt_irrefl, Nat.not_lt_zero, Nat.lt_add_one, splice, zerosN, fillV, walkB, pureL, V.pure, Nat.reduceMul, Nat.reduceLeDiff, Nat.one_ne_zero, and_self, and_true, true_and, List.take_zero, List.drop_succ_cons, List.drop_zero, List.take_succ_cons, List.replicate_one, Bool.and_self, Bool.and_true, List.drop_nil, List.take_nil, Nat.le_refl, Nat.zero_add, Nat.zero_mul, Nat.one_mul, Nat.mul_one, ta189, gs_eq, gs_ne, List.length_set, hT, h3, Nat.reduceBEq, ia0, ia1, ia2, ia3, sl1, sl2, hm1', hm2', hm3', b1, b2]
      refine W.done ⟨_, _, rfl, rfl, ?_⟩
      exact popF_drop (H := [[(2, .cells zW), (3, .cells [.int .u32 z.a, .int .u32 z.b, .int .u32 z.c, .int .u32 z.d]), (11, .grow n), (1000006, .loop 0 none 189 6 T)], []]) (G := [[]]) rfl (wf_four z n T hr (.inl rfl)))
  exact h1

theorem refsL_bytes (p : Nat → Nat → Bool) : ∀ l : List UInt8, refsL p (ofBytes l) = false
  | [] => rfl
  | b :: l => by
    have := refsL_bytes p l
    simp only [ofBytes, List.map_cons, refsL, V.refs, Bool.false_or] at this ⊢; exact this
theorem foldP_ok {l : List UInt8} : ∀ {j : Nat}, 8 * j ≤ l.length → wok (foldP l j)
  | 0, _ => (show wok ⟨1, 2, 3, 4⟩ from ⟨by decide, by decide, by decide, by decide⟩)
  | j + 1, h => stepP_ok (foldP_ok (by omega)) (by simp; omega)
theorem four_loop (v : V) (l : List UInt8) (hv : IsBytes v l) (hl : l.length ≤ 2097152) (m : Nat) (hm : l.length = 8 * m) (n : Nat) (T : List V) (hT : T.length = 47) (h3 : T.getD 3 .bad = .ptr 0 3 0) (hr : refsL (fun f _ => Nat.ble 1 f) T = false) :
    CW Tryz.prog polD 105 [.yield 0 1000006, .iptr [v] 0, .iptr [.int .i64 8] 0] [[(2, .cells zW), (3, .cells (wc ⟨1, 2, 3, 4⟩)), (11, .grow n), (1000006, .loop 0 none 189 6 T)]] fun r H' => r = .ret (.tuple []) ∧ H' = [[(2, .cells zW), (3, .cells (wc (foldP l m))), (11, .grow n), (1000006, .loop 0 none 189 6 T)]] :=
  chunk_cw v l hv (by omega) 8 (by omega) (by omega) m hm 0 1000006 (fun j => [[(2, .cells zW), (3, .cells (wc (foldP l j))), (11, .grow n), (1000006, .loop 0 none 189 6 T)]]) (fun _ => rfl) (wf_four _ n T hr (.inr rfl))
    (fun j hj w hw => four_round (foldP l j) (foldP_ok (by omega)) n T hT h3 hr w _ hw (by simp; omega))

def padN (n : Nat) : Nat := (8 - (n + 1) % 8) % 8
noncomputable def fourB (l : List UInt8) : W4 :=
  let y := foldP (padB l (padN l.length)) ((l.length + 1 + padN l.length) / 8)
  oftenW 8 ⟨y.a, Nat.xor y.b l.length, y.c, y.d⟩

theorem four_fz (v : V) (l : List UInt8) (hv : IsBytes v l) (hl : l.length ≤ 1048576) : Fz Tryz.prog polD 189 [v] fun r => r = .agg (wc (fourB l)) := by
  refine fz_of Tryz.func189 rfl ?_
  obtain ⟨v1, hv1, hm1⟩ := (scl_fz v l hv hl).op (by rfl) (frzL_cons (hv.frz _) rfl)
  have hm1' : ∀ s H, _ := fun s H => hm1 189 0 s H rfl
  obtain ⟨v2, ⟨hv2, hc2⟩, hm2⟩ := (clip_fz v1 l hv1 hl).op (by rfl) (frzL_cons (hv1.frz _) rfl)
  have hm2' : ∀ s H, _ := fun s H => hm2 189 0 s H rfl
  have ez : ([.int .u32 0, .int .u32 0, .int .u32 0, .int .u32 0] : List V) = zW := rfl
  have ew : ([.int .u32 1, .int .u32 2, .int .u32 3, .int .u32 4] : List V) = wc ⟨1, 2, 3, 4⟩ := rfl
  have dz : zW.drop 4 = [] := rfl
  have bv : buildV Tryz.prog 247 [(0, .int .u32 1), (1, .int .u32 2), (2, .int .u32 3), (3, .int .u32 4)] = some (.agg (wc ⟨1, 2, 3, 4⟩)) := by kernel_rfl
  have mt : ∀ s, polD.mt 189 s = false := fun s => rfl
  have sc1 : ∀ g, sliceCells g 1 (.islice [.int .u8 1] 1 true) = some ([.int .u8 1], 1) := fun g => rfl
  have pe : ofBytes l ++ [.int .u8 1] = ofBytes (padB l 0) := by simp [padB, ofBytes]
  have ap : appendV Tryz.prog (polD.mt 189) 0 (hget [[(2, .cells zW), (3, .cells (wc ⟨1, 2, 3, 4⟩))]]) (some 11) 26 26 v2 (.islice [.int .u8 1] 1 true) = some (.val (.gslice 0 11 (ofBytes (padB l 0)) (l.length + 1) 1) (some (0, 11, .grow (l.length + 1)))) := by
    have len2 := hv2
    rcases hc2 with rfl | ⟨c, n, rfl⟩
    · have h0 : l = [] := by
        obtain ⟨hlen, ⟨_, h⟩ | ⟨f, h⟩⟩ := hv2
        · exact List.eq_nil_of_length_eq_zero h
        · cases h
      subst h0
      rw [app_nil Tryz.underlying26 sz5 by8' zc5 rfl Tryz.underlying26 (sc1 _) (by omega) (by decide), grown_im (mt _) rfl rfl]
      rfl
    · obtain ⟨hlen, ⟨h, _⟩ | ⟨f, h⟩⟩ := hv2
      · cases h
      · cases h
        rw [app_full Tryz.underlying26 sz5 by8' zc5 rfl Tryz.underlying26 (sc1 _) (by omega) hlen (roomy_of (by omega) (by omega)), grown_im (mt _) rfl rfl, pe]
  simp only [tok_int, walk, walkL, evOp, quietOp, farOp, nov, gd, rho, putT, wr, Nat.reduceAdd, Nat.reduceSub, Bool.false_eq_true, if_true, if_false, reduceIte, reduceCtorEq, walkM, Int.reduceBEq, Int.reduceBNe, Int.reduceLT, Int.reduceLE, decide_true, decide_false, eq_self, Bool.not_true, Bool.not_false, ↓ev_fa, ↓ev_field, ↓ev_load, ↓ev_store, stO_cells, List.all_cons, List.all_nil, Bool.and_self, Bool.and_true, Tryz.ntmps189, ta189, new, hget, hset, fget, fset, List.modify_zero_cons, List.modify_succ_cons, List.modify_cons, Nat.reduceLT, Nat.reduceEqDiff, Nat.lt_irrefl, Nat.not_lt_zero, Nat.lt_add_one, splice, zerosN, fillV, walkB, pureL, V.pure, Nat.reduceMul, Nat.reduceLeDiff, Nat.one_ne_zero, and_self, and_true, true_and, List.take_zero, List.drop_succ_cons, List.drop_zero, List.take_succ_cons, List.replicate_one, Bool.and_self, Bool.and_true, List.drop_nil, List.take_nil, Nat.le_refl, Nat.zero_add, Nat.zero_mul, Nat.one_mul, Nat.mul_one, hm1', hm2', ez, ew, mt, bi_append, ap, sc_w, ln_w, Tryz.underlying26, bv, ln_z, dz]
  refine W.ul ?_
  refine W.loopS (kt := [0, 2, 3, 4]) rfl (fun k : Nat => st189_3 v (.ptr 0 2 0) (.ptr 0 3 0) (.gslice 0 11 (ofBytes (padB l k)) (l.length + 1 + k) 1)) (fun k => [[(2, .cells zW), (3, .cells (wc ⟨1, 2, 3, 4⟩)), (11, .grow (l.length + 1 + k))]]) (fun k => k ≤ padN l.length) (fun k => padN l.length - k) ?_ 0 (Nat.zero_le _) rfl rfl
  intro k hk
  have pn : padN l.length < 8 := Nat.mod_lt _ (by decide)
  simp only [st189_3]
  have lg : ∀ g, lenV Tryz.prog g 26 (.gslice 0 11 (ofBytes (padB l k)) (l.length + 1 + k) 1) = some (.int .i64 ((l.length + 1 + k : Nat) : Int)) := len_g Tryz.underlying26
  have rm : ∀ a b, binV Tryz.prog .rem 3 a b (.int .i64 ((l.length + 1 + k : Nat) : Int)) (.int .i64 8) = some (.int .i64 (((l.length + 1 + k) % 8 : Nat) : Int)) := fun a b => by
    have e : ((l.length + 1 + k : Nat) : Int).tmod 8 = (((l.length + 1 + k) % 8 : Nat) : Int) := by
      rw [Int.tmod_eq_emod_of_nonneg (by omega)]; omega
    rw [← e]; rfl
  by_cases h : k < padN l.length
  · have c1 : ((((l.length + 1 + k) % 8 : Nat) : Int) != 0) = true := by
      have : (l.length + 1 + k) % 8 ≠ 0 := by unfold padN at h pn; omega
      simp only [bne_iff_ne, ne_eq]; omega
    generalize hN : (l.length + 1 + k : Nat) = N at *
    have pk : ofBytes (padB l k) ++ [.int .u8 0] = ofBytes (padB l (k + 1)) := by rw [← padB_succ, ofBytes_append]; rfl
    have ap2 : appendV Tryz.prog (polD.mt 189) 0 (hget [[(2, .cells zW), (3, .cells (wc ⟨1, 2, 3, 4⟩)), (11, .grow N)]]) (some 18) 26 26 (.gslice 0 11 (ofBytes (padB l k)) N 1) (.islice [.int .u8 0] 1 true) = some (.val (.gslice 0 11 (ofBytes (padB l (k + 1))) (N + 1) 1) (some (0, 11, .grow (N + 1)))) := by
      rw [app_more Tryz.underlying26 sz5 by8' zc5 rfl Tryz.underlying26 (cs := [.int .u8 0]) (m := 1) rfl (by omega) (roomy_of (by omega) (by omega)) rfl rfl rfl, pk]
    simp only [tok_int, walk, walkL, evOp, quietOp, farOp, nov, gd, rho, putT, wr, Nat.reduceAdd, Nat.reduceSub, Bool.false_eq_true, if_true, if_false, reduceIte, reduceCtorEq, walkM, Int.reduceBEq, Int.reduceBNe, Int.reduceLT, Int.reduceLE, decide_true, decide_false, eq_self, Bool.not_true, Bool.not_false, ↓ev_fa, ↓ev_field, ↓ev_load, ↓ev_store, stO_cells, List.all_cons, List.all_nil, Bool.and_self, Bool.and_true, ta189, new, hget, hset, fget, fset, List.modify_zero_cons, List.modify_succ_cons, List.modify_cons, Nat.reduceLT, Nat.reduceEqDiff, Nat.lt_irrefl, Nat.not_lt_zero, Nat.lt_add_one, splice, zerosN, fillV, walkB, pureL, V.pure, Nat.reduceMul, Nat.reduceLeDiff, Nat.one_ne_zero, and_self, and_true, true_and, List.take_zero, List.drop_succ_cons, List.drop_zero, List.take_succ_cons, List.replicate_one, Bool.and_self, Bool.and_true, List.drop_nil, List.take_nil, Nat.le_refl, Nat.zero_add, Nat.zero_mul, Nat.one_mul, Nat.mul_one, mt, bi_append, lg, rm, c1, Tryz.underlying26, ap2]
    have eN : N + 1 = l.length + 1 + (k + 1) := by omega
    refine W.done ⟨k + 1, ?_, ?_, by omega, by omega⟩
    · rw [← eN]; rfl
    · rw [← eN]
  · have hk' : k = padN l.length := by omega
    subst hk'
    have c1 : ((((l.length + 1 + padN l.length) % 8 : Nat) : Int) != 0) = false := by
      have : (l.length + 1 + padN l.length) % 8 = 0 := by unfold padN; omega
      rw [this]; rfl
    have hv3 : IsBytes (.islice (ofBytes (padB l (padN l.length))) (l.length + 1 + padN l.length) false) (padB l (padN l.length)) := by
      have := IsBytes.mk (padB l (padN l.length)) false
      rwa [padB_length] at this
    have m8 : l.length + 1 + padN l.length = 8 * ((l.length + 1 + padN l.length) / 8) := by unfold padN; omega
    have pl := padB_length l (padN l.length)
    obtain ⟨m3, rfl, hm3⟩ := (chunk_fz _ _ hv3 8 (by omega)).op' (args := [.gslice 0 11 (ofBytes (padB l (padN l.length))) (l.length + 1 + padN l.length) 1, .int .i64 8]) (by rfl) (frzL_cons (frz_gs _ _) rfl)
    have hm3' : ∀ s H, _ := fun s H => hm3 189 0 s H rfl
    have fe : fourB l = oftenW 8 ⟨(foldP (padB l (padN l.length)) ((l.length + 1 + padN l.length) / 8)).a, Nat.xor (foldP (padB l (padN l.length)) ((l.length + 1 + padN l.length) / 8)).b l.length, (foldP (padB l (padN l.length)) ((l.length + 1 + padN l.length) / 8)).c, (foldP (padB l (padN l.length)) ((l.length + 1 + padN l.length) / 8)).d⟩ := rfl
    rw [fe]
    generalize hN : (l.length + 1 + padN l.length : Nat) = N at *
    generalize padB l (padN l.length) = L at *
    have ok := foldP_ok (l := L) (j := N / 8) (by omega)
    have lp := fun T => four_loop _ L hv3 (by omega) (N / 8) (by omega) N T
    generalize foldP L (N / 8) = y at *
    simp only [tok_int, walk, walkL, evOp, quietOp, farOp, nov, gd, rho, putT, wr, Nat.reduceAdd, Nat.reduceSub, Bool.false_eq_true, if_true, if_false, reduceIte, reduceCtorEq, walkM, Int.reduceBEq, Int.reduceBNe, Int.reduceLT, Int.reduceLE, decide_true, decide_false, eq_self, Bool.not_true, Bool.not_false, ↓ev_fa, ↓ev_field, ↓ev_load, ↓ev_store, stO_cells, List.all_cons, List.all_nil, Bool.and_self, Bool.and_true, ta189, new, hget, hset, fget, fset, List.modify_zero_cons, List.modify_succ_cons, List.modify_cons, Nat.reduceLT, Nat.reduceEqDiff, Nat.lt_irrefl, Nat.not_lt_zero, Nat.lt_add_one, splice, zerosN, fillV, walkB, pureL, V.pure, Nat.reduceMul, Nat.reduceLeDiff, Nat.one_ne_zero, and_self, and_true, true_and, List.take_zero, List.drop_succ_cons, List.drop_zero, List.take_succ_cons, List.replicate_one, Bool.and_self, Bool.and_true, List.drop_nil, List.take_nil, Nat.le_refl, Nat.zero_add, Nat.zero_mul, Nat.one_mul, Nat.mul_one, mt, bi_append, lg, rm, c1, Tryz.underlying26]
    refine W.done ?_
    simp only [tok_int, walk, walkL, evOp, quietOp, farOp, nov, gd, rho, putT, wr, Nat.reduceAdd, Nat.reduceSub, Bool.false_eq_true, if_true, if_false, reduceIte, reduceCtorEq, walkM, Int.reduceBEq, Int.reduceBNe, Int.reduceLT, Int.reduceLE, decide_true, decide_false, eq_self, Bool.not_true, Bool.not_false, ↓ev_fa, ↓ev_field, ↓ev_load, ↓ev_store, stO_cells, List.all_cons, List.all_nil, Bool.and_self, Bool.and_true, ta189, new, hget, hset, fget, fset, List.modify_zero_cons, List.modify_succ_cons, List.modify_cons, Nat.reduceLT, Nat.reduceEqDiff, Nat.lt_irrefl, Nat.not_lt_zero, Nat.lt_add_one, splice, zerosN, fillV, walkB, pureL, V.pure, Nat.reduceMul, Nat.reduceLeDiff, Nat.one_ne_zero, and_self, and_true, true_and, List.take_zero, List.drop_succ_cons, List.drop_zero, List.take_succ_cons, List.replicate_one, Bool.and_self, Bool.and_true, List.drop_nil, List.take_nil, Nat.le_refl, Nat.zero_add, Nat.zero_mul, Nat.one_mul, Nat.mul_one, mt, bi_append, lg, rm, c1, Tryz.underlying26, hm3']
    refine W.rfunc (rid := 6) rfl rfl rfl ?_
    refine (lp _ rfl rfl ?_).mono ?_
    · simp only [refsL, V.refs, hv.noRefs, refsL_bytes]; rfl
    rintro r H2 ⟨rfl, rfl⟩
    refine ⟨_, rfl, ?_⟩
    rw [loopEnd_of (st := 0) (f := 189) (r := 6) rfl (by decide) (by simp only [refsL, V.refs, hv.noRefs, refsL_bytes]; rfl) rfl]
    have hH : ∀ T, List.modify [[(2, O.cells zW), (3, .cells (wc y)), (11, .grow N), (1000006, .loop 0 none 189 6 T)]] 0 (fdel fun x => [loopSlot 6].contains x) = [[(2, .cells zW), (3, .cells (wc y)), (11, .grow N)]] := fun T => rfl
    rw [hH]
    obtain ⟨c, d, e, f⟩ := y
    obtain ⟨yc, yd, ye, yf⟩ := ok
    have len := hv.len Tryz.underlying26
    have cv : ∀ g, convertV Tryz.prog g 3 27 (.int .i64 l.length) = some (.val (.int .u32 l.length) none) := fun g => by
      simp only [convertV, Tryz.underlying3, Tryz.underlying27]
      have : (IntKind.u32).wrap (l.length : Int) = l.length := by rw [IntKind.wrap_u32]; omega
      simp only [this]
    have ll : l.length < 4294967296 := by omega
    have b1 : ∀ a b, binV Tryz.prog .xor 27 a b (.int .u32 d) (.int .u32 l.length) = _ := fun a b => xorU d _ yd ll
    have x1 := xor_lt yd ll
    simp only at x1 yc ye yf ⊢
    generalize (Nat.xor d l.length : Nat) = x at *
    obtain ⟨m4, rfl, hm4⟩ := (often_fz 8 (by omega) ⟨c, x, e, f⟩ ⟨yc, x1, ye, yf⟩).op (by rfl) rfl
    have hm4' : ∀ s H, AM.callOp polD (callW Tryz.prog polD) 189 0 s 221 [.agg [.int .u32 c, .int .u32 x, .int .u32 e, .int .u32 f], .int .i64 8] H = _ := fun s H => hm4 189 0 s H rfl
    have sz4 : ∀ w : W4, splice zW 0 (wc w) = wc w := fun w => rfl
    generalize oftenW 8 ⟨c, x, e, f⟩ = z at *
    have wz : wc ⟨c, d, e, f⟩ = [.int .u32 c, .int .u32 d, .int .u32 e, .int .u32 f] := rfl
    rw [wz]
    simp only [tok_int, walk, walkL, evOp, quietOp, farOp, nov, gd, rho, putT, wr, Nat.reduceAdd, Nat.reduceSub, Bool.false_eq_true, if_true, if_false, reduceIte, reduceCtorEq, walkM, Int.reduceBEq, Int.reduceBNe, Int.reduceLT, Int.reduceLE, decide_true, decide_false, eq_self, Bool.not_true, Bool.not_false, ↓ev_fa, ↓ev_field, ↓ev_load, ↓ev_store, stO_cells, List.all_cons, List.all_nil, Bool.and_self, Bool.and_true, ta189, new, hget, hset, fget, fset, List.modify_zero_cons, List.modify_succ_cons, List.modify_cons, Nat.reduceLT, Nat.reduceEqDiff, Nat.lt_irrefl, Nat.not_lt_zero, Nat.lt_add_one, splice, zerosN, fillV, walkB, pureL, V.pure, Nat.reduceMul, Nat.reduceLeDiff, Nat.one_ne_zero, and_self, and_true, true_and, List.take_zero, List.drop_succ_cons, List.drop_zero, List.take_succ_cons, List.replicate_one, Bool.and_self, Bool.and_true, List.drop_nil, List.take_nil, Nat.le_refl, Nat.zero_add, Nat.zero_mul, Nat.one_mul, Nat.mul_one, ia0, ia1, ia2, ia3, len, cv, b1, hm4', sc_w, ln_w, rd_w, sp_w, sp_z, ln_z, tk_w, dz]
    exact W.done (EndZ.ret (v := .agg (wc z)) rfl rfl rfl)
end Go.Proofs.YtafhcdagifopeaaGreatDoor
end
section
/- slices.Max of bytes, by a plain function. -/
set_option maxRecDepth 100000
namespace Go.Proofs.YtafhcdagifopeaaGreatDoor
open Go.AM Go.AM.BM
attribute [local irreducible] U W

def maxFrom (m : Int) (l : List UInt8) : Int := l.foldl (fun m b => if (b.toNat : Int) > m then b.toNat else m) m

theorem max_cw (v : V) (b : UInt8) (l : List UInt8) (hv : IsBytes v (b :: l)) (hl : l.length + 1 ≤ 281474976710656) :
    CW Tryz.prog polD 185 [v] [] fun x _ => x = .ret (.int .u8 (maxFrom b.toNat l)) := by
  refine cw_of Tryz.func185 rfl ?_
  have len := hv.len Tryz.underlying26
  have at0 := hv.at (k := .i64) Tryz.underlying26 sz5 (by decide) (i := 0) (by omega) (by simp)
  have get0 : (ofBytes (b :: l))[(0 : Int).toNat * 1]? = some (.int .u8 b.toNat) := rfl
  have get0' : (ofBytes (b :: l))[(0 : Int).toNat]? = some (.int .u8 b.toNat) := rfl
  have lt1 : decide (((b :: l).length : Int) < 1) = false := decide_eq_false (by simp; omega)
  have hL2 : (b :: l).length = l.length + 1 := rfl
  generalize hL : b :: l = L at *
  simp only [tok_int, walk, walkL, evOp, quietOp, farOp, nov, gd, rho, putT, wr, Nat.reduceAdd, Nat.reduceSub, Bool.false_eq_true, if_true, if_false, reduceIte, reduceCtorEq, walkM, Int.reduceBEq, Int.reduceBNe, Int.reduceLT, Int.reduceLE, decide_true, decide_false, eq_self, Bool.not_true, Bool.not_false, ↓ev_fa, ↓ev_field, ↓ev_load, ↓ev_store, stO_cells, List.all_cons, List.all_nil, Bool.and_self, Bool.and_true, Tryz.ntmps185, ta185, new, hget, hset, fget, fset, List.modify_zero_cons, List.modify_succ_cons, List.modify_cons, Nat.reduceLT, Nat.reduceEqDiff, Nat.lt_irrefl, Nat.not_lt_zero, Nat.lt_add_one, splice, zerosN, fillV, walkB, pureL, V.pure, Nat.reduceMul, Nat.reduceLeDiff, Nat.one_ne_zero, and_self, and_true, true_and, List.take_zero, List.drop_succ_cons, List.drop_zero, List.take_succ_cons, List.replicate_one, Bool.and_self, Bool.and_true, List.drop_nil, List.take_nil, Nat.le_refl, Nat.zero_add, Nat.zero_mul, Nat.one_mul, Nat.mul_one, len, at0, lt1, rd5, get0, get0']
  refine W.ul ?_
  refine W.loopS (kt := [0, 3, 4]) rfl (fun a : Int × Nat => st185_5 v (.int .u8 a.1) (.int .i64 a.2)) (fun _ => [[]]) (fun a => a.2 ≤ L.length ∧ maxFrom a.1 (L.drop a.2) = maxFrom b.toNat l) (fun a => L.length - a.2) ?_ (b.toNat, 1) ⟨by subst hL; simp, by subst hL; simp⟩ rfl rfl
  rintro ⟨m, i⟩ ⟨hi, hm⟩
  simp only at hi hm
  by_cases h : i < L.length
  · have c1 : decide ((i : Int) < L.length) = true := by simp; omega
    have at1 := hv.at (k := .i64) Tryz.underlying26 sz5 (by decide) (i := (i : Int)) (by omega) (by omega)
    have get1 : (ofBytes L)[(i : Int).toNat * 1]? = some (.int .u8 L[i].toNat) := by simp [ofBytes_get, h]
    have get1' : (ofBytes L)[(i : Int).toNat]? = some (.int .u8 L[i].toNat) := by simp [ofBytes_get, h]
    have w1 : (IntKind.i64).wrap ((i : Int) + 1) = ((i + 1 : Nat) : Int) := by rw [wrap_i64] <;> omega
    simp only [st185_5]
    simp only [tok_int, walk, walkL, evOp, quietOp, farOp, nov, gd, rho, putT, wr, Nat.reduceAdd, Nat.reduceSub, Bool.false_eq_true, if_true, if_false, reduceIte, reduceCtorEq, walkM, Int.reduceBEq, Int.reduceBNe, Int.reduceLT, Int.reduceLE, decide_true, decide_false, eq_self, Bool.not_true, Bool.not_false, ↓ev_fa, ↓ev_field, ↓ev_load, ↓ev_store, stO_cells, List.all_cons, List.all_nil, Bool.and_self, Bool.and_true, ta185, new, hget, hset, fget, fset, List.modify_zero_cons, List.modify_succ_cons, List.modify_cons, Nat.reduceLT, Nat.reduceEqDiff, Nat.lt_irrefl, Nat.not_lt_zero, Nat.lt_add_one, splice, zerosN, fillV, walkB, pureL, V.pure, Nat.reduceMul, Nat.reduceLeDiff, Nat.one_ne_zero, and_self, and_true, true_and, List.take_zero, List.drop_succ_cons, List.drop_zero, List.take_succ_cons, List.replicate_one, Bool.and_self, Bool.and_true, List.drop_nil, List.take_nil, Nat.le_refl, Nat.zero_add, Nat.zero_mul, Nat.one_mul, Nat.mul_one, len, c1, at1, rd5, get1, get1', w1]
    refine W.done ⟨(_, i + 1), rfl, rfl, ⟨by simp only; omega, ?_⟩, by simp only; omega⟩
    rw [← hm, List.drop_eq_getElem_cons h]
    rfl
  · have c1 : decide ((i : Int) < L.length) = false := by simp; omega
    simp only [st185_5]
    simp only [tok_int, walk, walkL, evOp, quietOp, farOp, nov, gd, rho, putT, wr, Nat.reduceAdd, Nat.reduceSub, Bool.false_eq_true, if_true, if_false, reduceIte, reduceCtorEq, walkM, Int.reduceBEq, Int.reduceBNe, Int.reduceLT, Int.reduceLE, decide_true, decide_false, eq_self, Bool.not_true, Bool.not_false, ↓ev_fa, ↓ev_field, ↓ev_load, ↓ev_store, stO_cells, List.all_cons, List.all_nil, Bool.and_self, Bool.and_true, len, c1]
    refine W.done ?_
    have : m = maxFrom b.toNat l := by rw [← hm, List.drop_eq_nil_of_le (by omega)]; rfl
    subst this
    simp only [tok_int, walk, walkL, evOp, quietOp, farOp, nov, gd, rho, putT, wr, Nat.reduceAdd, Nat.reduceSub, Bool.false_eq_true, if_true, if_false, reduceIte, reduceCtorEq, walkM, Int.reduceBEq, Int.reduceBNe, Int.reduceLT, Int.reduceLE, decide_true, decide_false, eq_self, Bool.not_true, Bool.not_false, ↓ev_fa, ↓ev_field, ↓ev_load, ↓ev_store, stO_cells, List.all_cons, List.all_nil, Bool.and_self, Bool.and_true]
    exact W.done (End.ret (v := .int .u8 (maxFrom b.toNat l)) rfl rfl)

theorem byteB {v : V} (h : isByteB v = true) : ∃ b : UInt8, v = .int .u8 b.toNat := by
  cases v with
  | int k a =>
    cases k <;> try (cases a <;> cases h)
    cases a with
    | ofNat n =>
      have : n < 256 := by
        simp only [isByteB, Nat.blt] at h
        have := Nat.le_of_ble_eq_true h
        omega
      refine ⟨UInt8.ofNat n, ?_⟩
      have e : (UInt8.ofNat n).toNat = n := by simp; omega
      rw [e]; rfl
    | negSucc n => cases h
  | _ => cases h
theorem bytesC_ok {x : V} {c : List V} (h : bytesC x = some c) : ∃ l : List UInt8, c = ofBytes l ∧ IsBytes x l ∧ l.length ≤ 1048576 := by
  have key : ∀ c : List V, c.all isByteB = true → ∃ l : List UInt8, c = ofBytes l := by
    intro c
    induction c with
    | nil => intro _; exact ⟨[], rfl⟩
    | cons v c ih =>
      intro h
      simp only [List.all_cons, Bool.and_eq_true] at h
      obtain ⟨b, rfl⟩ := byteB h.1
      obtain ⟨l, rfl⟩ := ih h.2
      exact ⟨b :: l, rfl⟩
  cases x with
  | nilslice => cases h; exact ⟨[], rfl, IsSl.nil, by simp⟩
  | islice xs n f =>
    simp only [bytesC] at h
    split at h
    case isFalse => cases h
    rename_i hc
    cases h
    simp only [Bool.and_eq_true] at hc
    obtain ⟨h1, h2, h3⟩ := hc
    obtain ⟨l, rfl⟩ := key _ h3
    have e1 := Nat.eq_of_beq_eq_true h1
    have e2 := Nat.le_of_ble_eq_true h2
    have e3 : (ofBytes l).length = l.length := by simp [ofBytes]
    rw [e3] at e1
    subst e1
    exact ⟨l, rfl, IsSl.mk (by rw [e3]; omega), e2⟩
  | _ => cases h
theorem maxV_from : ∀ (l : List UInt8) (m : Nat), Int.ofNat (maxV (ofBytes l) m) = maxFrom m l
  | [], m => rfl
  | b :: l, m => by
    have e : maxV (ofBytes (b :: l)) m = Bool.rec (motive := fun _ => Nat) (maxV (ofBytes l) m) (maxV (ofBytes l) b.toNat) (Nat.ble (Nat.succ m) b.toNat) := rfl
    have e2 : maxFrom m (b :: l) = maxFrom (if (b.toNat : Int) > m then b.toNat else m) l := rfl
    rw [e, e2]
    cases hb : Nat.ble (Nat.succ m) b.toNat with
    | true =>
      have := Nat.le_of_ble_eq_true hb
      rw [if_pos (by omega)]; exact maxV_from l _
    | false =>
      have : ¬ Nat.succ m ≤ b.toNat := fun h => by rw [Nat.ble_eq_true_of_le h] at hb; cases hb
      rw [if_neg (by omega)]; exact maxV_from l _
theorem kMax_fz (ys : List V) (v : V) (h : kMax ys = some v) : FzN Tryz.prog polD 185 ys v := by
  unfold kMax at h
  split at h
  case h_2 => cases h
  rename_i x
  split at h
  case h_2 => cases h
  rename_i v0 c hc
  cases h
  obtain ⟨l, e, hb, hl⟩ := bytesC_ok hc
  cases l with
  | nil => cases e
  | cons b l =>
    cases e
    obtain ⟨r, H, e1, rfl⟩ := max_cw x b l hb (by simp only [List.length_cons] at hl; omega)
    have e3 := maxV_from l b.toNat
    show FzN _ _ _ _ (.int .u8 (Int.ofNat (maxV (ofBytes l) b.toNat)))
    rw [e3]
    exact ⟨_, _, e1, rfl⟩
end Go.Proofs.YtafhcdagifopeaaGreatDoor
end
