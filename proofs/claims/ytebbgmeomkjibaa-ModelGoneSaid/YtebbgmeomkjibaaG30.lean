/- This file holds in one the texts O2, O3; each says at its head what it proves. -/
import Derived.Test.YtebbgmeomkjibaaG22
import Derived.Test.YtebbgmeomkjibaaG25
import Derived.Test.YtebbgmeomkjibaaG26
import Derived.Test.YtebbgmeomkjibaaG29
set_option linter.unusedSimpArgs false
set_option linter.unusedVariables false
section
/- model: the small functions. -/
set_option maxRecDepth 100000
namespace Go.Proofs.Ytebbgmeomkjibaa
open Go.AM Go.Mod

attribute [local irreducible] U W

theorem badB_iff (b : UInt8) : badB b = true ↔ b.toNat < 33 ∨ 126 < b.toNat := by simp [badB]

theorem bad_fz (b : UInt8) : Fz Try.prog pol 40 [.int .u8 b.toNat] fun r => r = .bool (badB b) := by
  refine fz_of Try.func40 rfl ?_
  simp only [walk, walkL, evOp, quietOp, farOp, nov, gd, rho, putT, wr, Nat.reduceAdd, Nat.reduceSub, Bool.false_eq_true, if_true, if_false, reduceIte, reduceCtorEq, walkM, Int.reduceBEq, Int.reduceBNe, Int.reduceLT, Int.reduceLE, decide_true, decide_false, eq_self, Bool.not_true, Bool.not_false, ↓ev_fa, ↓ev_field, ↓ev_load, ↓ev_store, stO_cells, List.all_cons, List.all_nil, Bool.and_self, Bool.and_true, Try.ntmps40]
  refine W.guardF (fun h => ?_) (fun h => ?_)
  · simp only [walk, walkL, evOp, quietOp, farOp, nov, gd, rho, putT, wr, Nat.reduceAdd, Nat.reduceSub, Bool.false_eq_true, if_true, if_false, reduceIte, reduceCtorEq, walkM, Int.reduceBEq, Int.reduceBNe, Int.reduceLT, Int.reduceLE, decide_true, decide_false, eq_self, Bool.not_true, Bool.not_false, ↓ev_fa, ↓ev_field, ↓ev_load, ↓ev_store, stO_cells, List.all_cons, List.all_nil, Bool.and_self, Bool.and_true, h]
    have h1 := of_decide_eq_false h
    have e : decide ((b.toNat : Int) > 126) = badB b := by
      by_cases h2 : 126 < b.toNat
      · rw [(badB_iff b).2 (.inr h2)]; exact decide_eq_true (by omega)
      · have hf : badB b = false := Bool.eq_false_iff.2 (fun e => by rcases (badB_iff b).1 e with h3 | h3 <;> omega)
        rw [hf]; exact decide_eq_false (by omega)
    exact W.done (EndZ.ret rfl rfl (by rw [← e]; rfl))
  · simp only [walk, walkL, evOp, quietOp, farOp, nov, gd, rho, putT, wr, Nat.reduceAdd, Nat.reduceSub, Bool.false_eq_true, if_true, if_false, reduceIte, reduceCtorEq, walkM, Int.reduceBEq, Int.reduceBNe, Int.reduceLT, Int.reduceLE, decide_true, decide_false, eq_self, Bool.not_true, Bool.not_false, ↓ev_fa, ↓ev_field, ↓ev_load, ↓ev_store, stO_cells, List.all_cons, List.all_nil, Bool.and_self, Bool.and_true, h]
    have h1 := of_decide_eq_true h
    have e : badB b = true := (badB_iff b).2 (.inl (by omega))
    exact W.done (EndZ.ret rfl rfl (by rw [e]; rfl))

theorem in_fz (n : Int) : Fz Try.prog pol 52 [.int .i64 n] fun r => r = .bool (inR n) := by
  refine fz_of Try.func52 rfl ?_
  simp only [walk, walkL, evOp, quietOp, farOp, nov, gd, rho, putT, wr, Nat.reduceAdd, Nat.reduceSub, Bool.false_eq_true, if_true, if_false, reduceIte, reduceCtorEq, walkM, Int.reduceBEq, Int.reduceBNe, Int.reduceLT, Int.reduceLE, decide_true, decide_false, eq_self, Bool.not_true, Bool.not_false, ↓ev_fa, ↓ev_field, ↓ev_load, ↓ev_store, stO_cells, List.all_cons, List.all_nil, Bool.and_self, Bool.and_true, Try.ntmps52]
  refine W.guardT (fun h => ?_) (fun h => ?_)
  · simp only [walk, walkL, evOp, quietOp, farOp, nov, gd, rho, putT, wr, Nat.reduceAdd, Nat.reduceSub, Bool.false_eq_true, if_true, if_false, reduceIte, reduceCtorEq, walkM, Int.reduceBEq, Int.reduceBNe, Int.reduceLT, Int.reduceLE, decide_true, decide_false, eq_self, Bool.not_true, Bool.not_false, ↓ev_fa, ↓ev_field, ↓ev_load, ↓ev_store, stO_cells, List.all_cons, List.all_nil, Bool.and_self, Bool.and_true, h]
    exact W.done (EndZ.ret rfl rfl (by simp only [inR, GE.ge, h, Bool.true_and, Bool.false_and] at *; first | rfl | (simp only [h, Bool.true_and, Bool.false_and]; rfl)))
  · simp only [walk, walkL, evOp, quietOp, farOp, nov, gd, rho, putT, wr, Nat.reduceAdd, Nat.reduceSub, Bool.false_eq_true, if_true, if_false, reduceIte, reduceCtorEq, walkM, Int.reduceBEq, Int.reduceBNe, Int.reduceLT, Int.reduceLE, decide_true, decide_false, eq_self, Bool.not_true, Bool.not_false, ↓ev_fa, ↓ev_field, ↓ev_load, ↓ev_store, stO_cells, List.all_cons, List.all_nil, Bool.and_self, Bool.and_true, h]
    exact W.done (EndZ.ret rfl rfl (by simp only [inR, GE.ge, h, Bool.true_and, Bool.false_and] at *; first | rfl | (simp only [h, Bool.true_and, Bool.false_and]; rfl)))

def failV (e : Int) : V := .agg [.int .i64 e, .int .i64 0, .nilslice, .nilslice, .int .i64 0, .int .u8 0, .int .i64 0, .int .i64 0, .str [], .nilslice]

theorem fails_fz (e : Int) : Fz Try.prog pol 16 [.int .i64 e] fun r => r = failV e := by
  refine fz_of Try.func16 rfl ?_
  simp only [walk, walkL, evOp, quietOp, farOp, nov, gd, rho, putT, wr, Nat.reduceAdd, Nat.reduceSub, Bool.false_eq_true, if_true, if_false, reduceIte, reduceCtorEq, walkM, Int.reduceBEq, Int.reduceBNe, Int.reduceLT, Int.reduceLE, decide_true, decide_false, eq_self, Bool.not_true, Bool.not_false, ↓ev_fa, ↓ev_field, ↓ev_load, ↓ev_store, stO_cells, List.all_cons, List.all_nil, Bool.and_self, Bool.and_true, Try.ntmps16, new, hget, hset, fget, fset, List.modify_zero_cons, List.modify_succ_cons, List.modify_cons, Nat.reduceLT, Nat.reduceEqDiff, Nat.lt_irrefl, Nat.not_lt_zero, Nat.lt_add_one, zerosN, fillV, walkB, pureL, V.pure, Nat.reduceMul, Nat.reduceLeDiff, Nat.one_ne_zero, and_self, and_true, true_and, List.take_zero, List.drop_succ_cons, List.drop_zero, List.take_succ_cons, List.replicate_one, List.drop_nil, List.take_nil, Nat.le_refl, Nat.zero_add, Nat.zero_mul, Nat.one_mul, Nat.mul_one, sz36, zc36, rd36, fo36_0, ff36_0, fo36_1, ff36_1, fo36_2, ff36_2, fo36_3, ff36_3, fo36_4, ff36_4, fo36_5, ff36_5, bv36, V.cells, splice]
  exact W.done (EndZ.ret rfl rfl rfl)

theorem index_fz (v : V) (l : List UInt8) (hv : IsBytes v l) (hl : l.length ≤ 1000000) : Fz Try.prog pol 60 [v, .func (.func 40) [] []] fun r => ∃ n : Int, r = .int .i64 n ∧ (decide (0 ≤ n) = l.any badB) := by
  refine fz_of Try.func60 rfl ?_
  have len := hv.len Try.underlying26
  simp only [walk, walkL, evOp, quietOp, farOp, nov, gd, rho, putT, wr, Nat.reduceAdd, Nat.reduceSub, Bool.false_eq_true, if_true, if_false, reduceIte, reduceCtorEq, walkM, Int.reduceBEq, Int.reduceBNe, Int.reduceLT, Int.reduceLE, decide_true, decide_false, eq_self, Bool.not_true, Bool.not_false, ↓ev_fa, ↓ev_field, ↓ev_load, ↓ev_store, stO_cells, List.all_cons, List.all_nil, Bool.and_self, Bool.and_true, Try.ntmps60, len]
  refine W.ul ?_
  refine W.loopS (kt := [0, 1, 7, 8]) rfl (fun i : Nat => st60_2 v (.func (.func 40) [] []) (.int .i64 l.length) (.int .i64 i)) (fun _ => [[]]) (fun i => i ≤ l.length ∧ (l.take i).any badB = false) (fun i => l.length - i) ?_ 0 ⟨by omega, by simp⟩ rfl rfl
  rintro i ⟨hi, hg⟩
  simp only [st60_2]
  by_cases h : i < l.length
  · have c1 : decide ((i : Int) < l.length) = true := decide_eq_true (by omega)
    have at1 := hv.at (k := .i64) Try.underlying26 sz5 (by decide) (i := (i : Int)) (by omega) (by omega)
    have get1 : (ofBytes l)[(i : Int).toNat * 1]? = some (.int .u8 l[i].toNat) := by simp [ofBytes_get, h]
    have w1 : (IntKind.i64).wrap ((i : Int) + 1) = ((i + 1 : Nat) : Int) := by rw [wrap_i64] <;> omega
    obtain ⟨m, rfl, hm⟩ := (bad_fz l[i]).op (by rfl) rfl
    have hm' : ∀ d, _ := fun d => hm 60 0 d [[]] rfl
    simp only [walk, walkL, evOp, quietOp, farOp, nov, gd, rho, putT, wr, Nat.reduceAdd, Nat.reduceSub, Bool.false_eq_true, if_true, if_false, reduceIte, reduceCtorEq, walkM, Int.reduceBEq, Int.reduceBNe, Int.reduceLT, Int.reduceLE, decide_true, decide_false, eq_self, Bool.not_true, Bool.not_false, ↓ev_fa, ↓ev_field, ↓ev_load, ↓ev_store, stO_cells, List.all_cons, List.all_nil, Bool.and_self, Bool.and_true, c1, at1, rd5, get1, hm']
    refine W.ite (fun h1 => ?_) (fun h1 => ?_)
    · simp only [walk, walkL, evOp, quietOp, farOp, nov, gd, rho, putT, wr, Nat.reduceAdd, Nat.reduceSub, Bool.false_eq_true, if_true, if_false, reduceIte, reduceCtorEq, walkM, Int.reduceBEq, Int.reduceBNe, Int.reduceLT, Int.reduceLE, decide_true, decide_false, eq_self, Bool.not_true, Bool.not_false, ↓ev_fa, ↓ev_field, ↓ev_load, ↓ev_store, stO_cells, List.all_cons, List.all_nil, Bool.and_self, Bool.and_true]
      refine W.done ?_
      simp only [walk, walkL, evOp, quietOp, farOp, nov, gd, rho, putT, wr, Nat.reduceAdd, Nat.reduceSub, Bool.false_eq_true, if_true, if_false, reduceIte, reduceCtorEq, walkM, Int.reduceBEq, Int.reduceBNe, Int.reduceLT, Int.reduceLE, decide_true, decide_false, eq_self, Bool.not_true, Bool.not_false, ↓ev_fa, ↓ev_field, ↓ev_load, ↓ev_store, stO_cells, List.all_cons, List.all_nil, Bool.and_self, Bool.and_true]
      refine W.done (EndZ.ret rfl rfl ⟨i, rfl, ?_⟩)
      have : l.any badB = true := List.any_eq_true.2 ⟨l[i], List.getElem_mem h, h1⟩
      rw [this]; exact decide_eq_true (by omega)
    · simp only [walk, walkL, evOp, quietOp, farOp, nov, gd, rho, putT, wr, Nat.reduceAdd, Nat.reduceSub, Bool.false_eq_true, if_true, if_false, reduceIte, reduceCtorEq, walkM, Int.reduceBEq, Int.reduceBNe, Int.reduceLT, Int.reduceLE, decide_true, decide_false, eq_self, Bool.not_true, Bool.not_false, ↓ev_fa, ↓ev_field, ↓ev_load, ↓ev_store, stO_cells, List.all_cons, List.all_nil, Bool.and_self, Bool.and_true, w1]
      refine W.done ⟨i + 1, rfl, rfl, ⟨by omega, ?_⟩, by omega⟩
      rw [List.take_add_one, List.any_append, hg]
      simp [h, h1]
  · have c1 : decide ((i : Int) < l.length) = false := decide_eq_false (by omega)
    have e : i = l.length := by omega
    subst e
    simp only [walk, walkL, evOp, quietOp, farOp, nov, gd, rho, putT, wr, Nat.reduceAdd, Nat.reduceSub, Bool.false_eq_true, if_true, if_false, reduceIte, reduceCtorEq, walkM, Int.reduceBEq, Int.reduceBNe, Int.reduceLT, Int.reduceLE, decide_true, decide_false, eq_self, Bool.not_true, Bool.not_false, ↓ev_fa, ↓ev_field, ↓ev_load, ↓ev_store, stO_cells, List.all_cons, List.all_nil, Bool.and_self, Bool.and_true, c1]
    refine W.done ?_
    simp only [walk, walkL, evOp, quietOp, farOp, nov, gd, rho, putT, wr, Nat.reduceAdd, Nat.reduceSub, Bool.false_eq_true, if_true, if_false, reduceIte, reduceCtorEq, walkM, Int.reduceBEq, Int.reduceBNe, Int.reduceLT, Int.reduceLE, decide_true, decide_false, eq_self, Bool.not_true, Bool.not_false, ↓ev_fa, ↓ev_field, ↓ev_load, ↓ev_store, stO_cells, List.all_cons, List.all_nil, Bool.and_self, Bool.and_true]
    refine W.done (EndZ.ret rfl rfl ⟨-1, rfl, ?_⟩)
    rw [List.take_length] at hg
    rw [hg]; rfl
theorem contains_fz (v : V) (l : List UInt8) (hv : IsBytes v l) (hl : l.length ≤ 1000000) : Fz Try.prog pol 39 [v, .func (.func 40) [] []] fun r => r = .bool (l.any badB) := by
  refine fz_of Try.func39 rfl ?_
  obtain ⟨m, ⟨n, rfl, hn⟩, hm⟩ := (index_fz v l hv hl).op (by rfl) (frzL_cons (hv.frz _) rfl)
  have hm' : ∀ d, _ := fun d => hm 39 0 d [[]] rfl
  simp only [walk, walkL, evOp, quietOp, farOp, nov, gd, rho, putT, wr, Nat.reduceAdd, Nat.reduceSub, Bool.false_eq_true, if_true, if_false, reduceIte, reduceCtorEq, walkM, Int.reduceBEq, Int.reduceBNe, Int.reduceLT, Int.reduceLE, decide_true, decide_false, eq_self, Bool.not_true, Bool.not_false, ↓ev_fa, ↓ev_field, ↓ev_load, ↓ev_store, stO_cells, List.all_cons, List.all_nil, Bool.and_self, Bool.and_true, Try.ntmps39, hm']
  exact W.done (EndZ.ret rfl rfl (by rw [← hn]; rfl))

theorem named_fz (s : List UInt8) (hl : s.length ≤ 1000000) : Fz Try.prog pol 17 [.str s] fun r => r = .int .i64 (nameE s) := by
  refine fz_of Try.func17 rfl ?_
  simp only [walk, walkL, evOp, quietOp, farOp, nov, gd, rho, putT, wr, Nat.reduceAdd, Nat.reduceSub, Bool.false_eq_true, if_true, if_false, reduceIte, reduceCtorEq, walkM, Int.reduceBEq, Int.reduceBNe, Int.reduceLT, Int.reduceLE, decide_true, decide_false, eq_self, Bool.not_true, Bool.not_false, ↓ev_fa, ↓ev_field, ↓ev_load, ↓ev_store, stO_cells, List.all_cons, List.all_nil, Bool.and_self, Bool.and_true, Try.ntmps17, ln9]
  have cv : ∀ g, convertV Try.prog g 9 26 (.str s) = some (.val (.islice (ofBytes s) s.length false) none) := fun g => by
    simp only [convertV, Try.underlying9, Try.underlying26, Try.underlying5]
  obtain ⟨m, rfl, hm⟩ := (contains_fz _ s (IsBytes.mk s false) hl).op (by rfl) (frzL_cons rfl rfl)
  have hm' : ∀ d, _ := fun d => hm 17 0 d [[]] rfl
  have e1 : decide ((s.length : Int) < 1) = !decide (1 ≤ s.length) := by
    by_cases h : 1 ≤ s.length
    · rw [decide_eq_true h]; exact decide_eq_false (by omega)
    · rw [decide_eq_false h]; exact decide_eq_true (by omega)
  have e2 : decide ((s.length : Int) > 14) = !decide (s.length ≤ 14) := by
    by_cases h : s.length ≤ 14
    · rw [decide_eq_true h]; exact decide_eq_false (by omega)
    · rw [decide_eq_false h]; exact decide_eq_true (by omega)
  refine W.guardF (fun h => ?_) (fun h => ?_)
  · simp only [walk, walkL, evOp, quietOp, farOp, nov, gd, rho, putT, wr, Nat.reduceAdd, Nat.reduceSub, Bool.false_eq_true, if_true, if_false, reduceIte, reduceCtorEq, walkM, Int.reduceBEq, Int.reduceBNe, Int.reduceLT, Int.reduceLE, decide_true, decide_false, eq_self, Bool.not_true, Bool.not_false, ↓ev_fa, ↓ev_field, ↓ev_load, ↓ev_store, stO_cells, List.all_cons, List.all_nil, Bool.and_self, Bool.and_true, h, ln9]
    refine W.guardF (fun h2 => ?_) (fun h2 => ?_)
    · simp only [walk, walkL, evOp, quietOp, farOp, nov, gd, rho, putT, wr, Nat.reduceAdd, Nat.reduceSub, Bool.false_eq_true, if_true, if_false, reduceIte, reduceCtorEq, walkM, Int.reduceBEq, Int.reduceBNe, Int.reduceLT, Int.reduceLE, decide_true, decide_false, eq_self, Bool.not_true, Bool.not_false, ↓ev_fa, ↓ev_field, ↓ev_load, ↓ev_store, stO_cells, List.all_cons, List.all_nil, Bool.and_self, Bool.and_true, h, h2, cv, hm']
      refine W.ite (fun h3 => ?_) (fun h3 => ?_)
      · simp only [walk, walkL, evOp, quietOp, farOp, nov, gd, rho, putT, wr, Nat.reduceAdd, Nat.reduceSub, Bool.false_eq_true, if_true, if_false, reduceIte, reduceCtorEq, walkM, Int.reduceBEq, Int.reduceBNe, Int.reduceLT, Int.reduceLE, decide_true, decide_false, eq_self, Bool.not_true, Bool.not_false, ↓ev_fa, ↓ev_field, ↓ev_load, ↓ev_store, stO_cells, List.all_cons, List.all_nil, Bool.and_self, Bool.and_true]
        exact W.done (EndZ.ret rfl rfl (by rw [nameE, okName, h3]; simp))
      · simp only [walk, walkL, evOp, quietOp, farOp, nov, gd, rho, putT, wr, Nat.reduceAdd, Nat.reduceSub, Bool.false_eq_true, if_true, if_false, reduceIte, reduceCtorEq, walkM, Int.reduceBEq, Int.reduceBNe, Int.reduceLT, Int.reduceLE, decide_true, decide_false, eq_self, Bool.not_true, Bool.not_false, ↓ev_fa, ↓ev_field, ↓ev_load, ↓ev_store, stO_cells, List.all_cons, List.all_nil, Bool.and_self, Bool.and_true]
        exact W.done (EndZ.ret rfl rfl (by
          rw [e1] at h; rw [e2] at h2
          have a1 : decide (1 ≤ s.length) = true := by simpa using h
          have a2 : decide (s.length ≤ 14) = true := by simpa using h2
          rw [nameE, okName, h3, a1, a2]; rfl))
    · simp only [walk, walkL, evOp, quietOp, farOp, nov, gd, rho, putT, wr, Nat.reduceAdd, Nat.reduceSub, Bool.false_eq_true, if_true, if_false, reduceIte, reduceCtorEq, walkM, Int.reduceBEq, Int.reduceBNe, Int.reduceLT, Int.reduceLE, decide_true, decide_false, eq_self, Bool.not_true, Bool.not_false, ↓ev_fa, ↓ev_field, ↓ev_load, ↓ev_store, stO_cells, List.all_cons, List.all_nil, Bool.and_self, Bool.and_true, h, h2]
      exact W.done (EndZ.ret rfl rfl (by
        rw [e2] at h2
        have a2 : decide (s.length ≤ 14) = false := by simpa using h2
        rw [nameE, okName, a2]; simp))
  · simp only [walk, walkL, evOp, quietOp, farOp, nov, gd, rho, putT, wr, Nat.reduceAdd, Nat.reduceSub, Bool.false_eq_true, if_true, if_false, reduceIte, reduceCtorEq, walkM, Int.reduceBEq, Int.reduceBNe, Int.reduceLT, Int.reduceLE, decide_true, decide_false, eq_self, Bool.not_true, Bool.not_false, ↓ev_fa, ↓ev_field, ↓ev_load, ↓ev_store, stO_cells, List.all_cons, List.all_nil, Bool.and_self, Bool.and_true, h]
    exact W.done (EndZ.ret rfl rfl (by
      rw [e1] at h
      have a1 : decide (1 ≤ s.length) = false := by simpa using h
      rw [nameE, okName, a1]; rfl))
end Go.Proofs.Ytebbgmeomkjibaa
end
section
/- model: a line in the heap. -/
set_option maxRecDepth 100000
namespace Go.Proofs.Ytebbgmeomkjibaa
open Go.AM Go.Mod

attribute [local irreducible] U W

def encN (l : List (Bytes × Int)) : List (V × V) := l.map fun p => (.str p.1, .int .i64 p.2)

theorem findKey_names (s : List UInt8) : ∀ (l : List (List UInt8 × Int)) (i : Nat), findKey (.str s) (encN l) i = some (match idxOf l s i, numOf l s with | some j, some n => some (j, .int .i64 n) | _, _ => none)
  | [], i => rfl
  | p :: l, i => by
    simp only [encN, List.map_cons, findKey, keyEq, idxOf, numOf]
    by_cases h : s = p.1
    · subst h; simp
    · have : (s == p.1) = false := by simpa using h
      simp only [this, h, if_false]
      exact findKey_names s l (i + 1)

theorem idxOf_isSome (s : List UInt8) : ∀ (l : List (List UInt8 × Int)) (i : Nat), (idxOf l s i).isSome = (numOf l s).isSome
  | [], _ => rfl
  | p :: l, i => by
    simp only [idxOf, numOf]
    split
    · rfl
    · exact idxOf_isSome s l (i + 1)
theorem findKey_new {l : List (Bytes × Int)} {s : Bytes} (h : numOf l s = none) : findKey (.str s) (encN l) 0 = some none := by
  rw [findKey_names, h]; cases idxOf l s 0 <;> rfl

theorem lookup_names {g : Get} {nf ns : Nat} {l : List (List UInt8 × Int)} {bs : List Nat} {clk : Nat} (h : g nf ns = some (.map (encN l) bs clk)) (s : List UInt8) :
    lookupV Try.prog g 62 (.map nf ns) (.str s) true = some (.tuple [.int .i64 ((numOf l s).getD 0), .bool (numOf l s).isSome]) := by
  have z : zer Try.prog 3 = some (.int .i64 0) := by kernel_rfl
  simp only [lookupV, Try.underlying62, Try.underlying9, z, plainKey, if_true, h, findKey_names]
  have := idxOf_isSome s l 0
  cases h1 : numOf l s with
  | none =>
    rw [h1] at this
    cases h2 : idxOf l s 0 with
    | none => rfl
    | some j => rw [h2] at this; cases this
  | some n =>
    rw [h1] at this
    cases h2 : idxOf l s 0 with
    | none => rw [h2] at this; cases this
    | some j => rfl
theorem len_names {g : Get} {nf ns : Nat} {l : List (List UInt8 × Int)} {bs : List Nat} {clk : Nat} (h : g nf ns = some (.map (encN l) bs clk)) : lenV Try.prog g 62 (.map nf ns) = some (.int .i64 l.length) := by
  simp only [lenV, Try.underlying62, h, encN, List.length_map]

structure Ob where
  kind : Int
  links : Int
  data : V
def Ob.cells (o : Ob) : List V := [.int .u8 o.kind, .int .i64 o.links, o.data]
def obs (l : List Ob) : List V := l.flatMap Ob.cells

theorem obs_length : ∀ l : List Ob, (obs l).length = l.length * 3
  | [] => rfl
  | o :: l => by simp only [obs, List.flatMap_cons, List.length_append, List.length_cons]; rw [show (List.flatMap Ob.cells l).length = l.length * 3 from obs_length l]; simp [Ob.cells]; omega
theorem obs_cons (o : Ob) (l : List Ob) : obs (o :: l) = .int .u8 o.kind :: .int .i64 o.links :: o.data :: obs l := rfl
theorem obs_get : ∀ (l : List Ob) (i : Nat) (o : Ob), l[i]? = some o → ∀ j, j < 3 → (obs l)[i * 3 + j]? = o.cells[j]?
  | [], i, o, h, _, _ => by simp at h
  | x :: l, 0, o, h, j, hj => by
    simp only [List.getElem?_cons_zero, Option.some.injEq] at h
    subst h
    simp only [obs, List.flatMap_cons, Nat.zero_mul, Nat.zero_add]
    rw [List.getElem?_append_left (by simp [Ob.cells]; omega)]
  | x :: l, i + 1, o, h, j, hj => by
    simp only [List.getElem?_cons_succ] at h
    simp only [obs, List.flatMap_cons]
    rw [List.getElem?_append_right (by simp [Ob.cells]; omega)]
    have : (i + 1) * 3 + j - (Ob.cells x).length = i * 3 + j := by simp [Ob.cells]; omega
    rw [this]
    exact obs_get l i o h j hj
theorem obs_drop : ∀ (l : List Ob) (i : Nat) (o : Ob), l[i]? = some o → ((obs l).drop (i * 3)).take 3 = o.cells
  | [], i, o, h => by simp at h
  | x :: l, 0, o, h => by
    simp only [List.getElem?_cons_zero, Option.some.injEq] at h
    subst h
    rfl
  | x :: l, i + 1, o, h => by
    simp only [List.getElem?_cons_succ] at h
    rw [obs_cons, show (i + 1) * 3 = i * 3 + 1 + 1 + 1 by omega]
    exact obs_drop l i o h
theorem obs_splice : ∀ (l : List Ob) (i : Nat) (o o' : Ob), l[i]? = some o → splice (obs l) (i * 3) o'.cells = obs (l.set i o')
  | [], i, o, _, h => by simp at h
  | x :: l, 0, o, o', h => rfl
  | x :: l, i + 1, o, o', h => by
    simp only [List.getElem?_cons_succ] at h
    have ih := obs_splice l i o o' h
    simp only [List.set_cons_succ, obs_cons, show (i + 1) * 3 = i * 3 + 1 + 1 + 1 by omega]
    rw [← ih]
    unfold splice
    simp only [List.take_succ_cons, List.cons_append, List.cons.injEq, true_and]
    rw [show i * 3 + 1 + 1 + 1 + o'.cells.length = (i * 3 + o'.cells.length) + 1 + 1 + 1 by omega]
    rfl
theorem obs_links : ∀ (l : List Ob) (i : Nat) (o : Ob) (n : Int), l[i]? = some o → splice (obs l) (i * 3 + 1) [.int .i64 n] = obs (l.set i { o with links := n })
  | [], i, o, _, h => by simp at h
  | x :: l, 0, o, n, h => by
    simp only [List.getElem?_cons_zero, Option.some.injEq] at h
    subst h
    rfl
  | x :: l, i + 1, o, n, h => by
    simp only [List.getElem?_cons_succ] at h
    have ih := obs_links l i o n h
    simp only [List.set_cons_succ, obs_cons, show (i + 1) * 3 = i * 3 + 1 + 1 + 1 by omega]
    rw [← ih]
    unfold splice
    simp only [List.take_succ_cons, List.cons_append, List.cons.injEq, true_and, List.length_cons, List.length_nil]
    rfl
theorem obs_data : ∀ (l : List Ob) (i : Nat) (o : Ob) (v : V), l[i]? = some o → splice (obs l) (i * 3 + 2) [v] = obs (l.set i { o with data := v })
  | [], i, o, _, h => by simp at h
  | x :: l, 0, o, n, h => by
    simp only [List.getElem?_cons_zero, Option.some.injEq] at h
    subst h
    rfl
  | x :: l, i + 1, o, n, h => by
    simp only [List.getElem?_cons_succ] at h
    have ih := obs_data l i o n h
    simp only [List.set_cons_succ, obs_cons, show (i + 1) * 3 = i * 3 + 1 + 1 + 1 by omega]
    rw [← ih]
    unfold splice
    simp only [List.take_succ_cons, List.cons_append, List.cons.injEq, true_and, List.length_cons, List.length_nil]
    rfl

theorem text_of {g : Get} {v : V} {l : List UInt8} (hv : IsBytes v l) : convertV Try.prog g 26 9 v = some (.val (.str l) none) := by
  have h := IsSl.sc (g := g) hv
  have hb := bytesOf_ofBytes l
  have hu : ∀ x, convertV Try.prog g 26 9 x = (match sliceCells g 1 x with | some (cs, _) => (bytesOf cs).map fun l => .val (.str l) none | none => none) := by
    intro x
    simp only [convertV, Try.underlying26, Try.underlying9, Try.underlying5]
    cases x <;> rfl
  rw [hu, h]
  simp only [hb, Option.map_some]

structure Loc where
  f : Nat
  s : Nat
  nf : Nat
  ns : Nat
  kf : Nat
  ks : Nat
def lineC (a : Loc) (sn : Bool) (ow pr : Int) (l : List Ob) : List V := .bool sn :: .int .i64 ow :: .int .i64 pr :: .ptr a.kf a.ks 0 :: .map a.nf a.ns :: obs l
section
variable {a : Loc} {sn : Bool} {ow pr : Int} {l : List Ob} {i : Nat} {o o' : Ob}
theorem lc_0 : (lineC a sn ow pr l)[0]? = some (.bool sn) := rfl
theorem lc_1 : (lineC a sn ow pr l)[1]? = some (.int .i64 ow) := rfl
theorem lc_2 : (lineC a sn ow pr l)[2]? = some (.int .i64 pr) := rfl
theorem lc_3 : (lineC a sn ow pr l)[3]? = some (.ptr a.kf a.ks 0) := rfl
theorem lc_4 : (lineC a sn ow pr l)[4]? = some (.map a.nf a.ns) := rfl
theorem lc_len : (lineC a sn ow pr l).length = l.length * 3 + 5 := by simp [lineC, obs_length]
theorem lc_kind (h : l[i]? = some o) : (lineC a sn ow pr l)[5 + i * 3]? = some (.int .u8 o.kind) := by
  rw [show 5 + i * 3 = i * 3 + 0 + 1 + 1 + 1 + 1 + 1 by omega]
  exact obs_get l i o h 0 (by omega)
theorem lc_links (h : l[i]? = some o) : (lineC a sn ow pr l)[5 + i * 3 + 1]? = some (.int .i64 o.links) := by
  rw [show 5 + i * 3 + 1 = i * 3 + 1 + 1 + 1 + 1 + 1 + 1 by omega]
  exact obs_get l i o h 1 (by omega)
theorem lc_data (h : l[i]? = some o) : (lineC a sn ow pr l)[5 + i * 3 + 2]? = some o.data := by
  rw [show 5 + i * 3 + 2 = i * 3 + 2 + 1 + 1 + 1 + 1 + 1 by omega]
  exact obs_get l i o h 2 (by omega)
theorem lc_ob (h : l[i]? = some o) : ((lineC a sn ow pr l).drop (5 + i * 3)).take 3 = o.cells := by
  rw [show 5 + i * 3 = i * 3 + 1 + 1 + 1 + 1 + 1 by omega]
  exact obs_drop l i o h
theorem splice_hdr {x0 x1 x2 x3 x4 : V} {xs cs : List V} {k : Nat} : splice (x0 :: x1 :: x2 :: x3 :: x4 :: xs) (k + 5) cs = x0 :: x1 :: x2 :: x3 :: x4 :: splice xs k cs := by
  unfold splice
  simp only [List.take_succ_cons, List.cons_append]
  rw [show k + 5 + cs.length = (k + cs.length) + 1 + 1 + 1 + 1 + 1 by omega]
  rfl
theorem lc_setOb (h : l[i]? = some o) : splice (lineC a sn ow pr l) (5 + i * 3) o'.cells = lineC a sn ow pr (l.set i o') := by
  rw [show 5 + i * 3 = i * 3 + 5 by omega, lineC, splice_hdr, obs_splice l i o o' h]; rfl
theorem lc_setLinks (h : l[i]? = some o) (n : Int) : splice (lineC a sn ow pr l) (5 + i * 3 + 1) [.int .i64 n] = lineC a sn ow pr (l.set i { o with links := n }) := by
  rw [show 5 + i * 3 + 1 = i * 3 + 1 + 5 by omega, lineC, splice_hdr, obs_links l i o n h]; rfl
theorem lc_setData (h : l[i]? = some o) (v : V) : splice (lineC a sn ow pr l) (5 + i * 3 + 2) [v] = lineC a sn ow pr (l.set i { o with data := v }) := by
  rw [show 5 + i * 3 + 2 = i * 3 + 2 + 5 by omega, lineC, splice_hdr, obs_data l i o v h]; rfl
end

theorem lt_of_get {α : Type} {l : List α} {i : Nat} {o : α} (h : l[i]? = some o) : i < l.length := (List.getElem?_eq_some_iff.1 h).1
section
variable {a : Loc} {sn : Bool} {ow pr : Int} {l : List Ob} {i f s : Nat} {o : Ob}
theorem st_links (h : l[i]? = some o) {n : Int} : stO 1 f s (5 + i * 3 + 1) [.int .i64 n] (some (.cells (lineC a sn ow pr l))) = some (.val .bad (some (f, s, .cells (lineC a sn ow pr (l.set i { o with links := n }))))) := by
  have := lt_of_get h
  rw [stO_cells, if_pos ⟨rfl, by rw [lc_len]; omega⟩, lc_setLinks h]
theorem st_data (h : l[i]? = some o) {v : V} : stO 1 f s (5 + i * 3 + 2) [v] (some (.cells (lineC a sn ow pr l))) = some (.val .bad (some (f, s, .cells (lineC a sn ow pr (l.set i { o with data := v }))))) := by
  have := lt_of_get h
  rw [stO_cells, if_pos ⟨rfl, by rw [lc_len]; omega⟩, lc_setData h]
theorem st_ob (h : l[i]? = some o) {k n : Int} {v : V} : stO 3 f s (5 + i * 3) [.int .u8 k, .int .i64 n, v] (some (.cells (lineC a sn ow pr l))) = some (.val .bad (some (f, s, .cells (lineC a sn ow pr (l.set i ⟨k, n, v⟩))))) := by
  have := lt_of_get h
  rw [stO_cells, if_pos ⟨rfl, by rw [lc_len]; simp; omega⟩]
  rw [show ([.int .u8 k, .int .i64 n, v] : List V) = Ob.cells ⟨k, n, v⟩ from rfl, lc_setOb h]
theorem st_snap {b : Bool} : stO 1 f s 0 [.bool b] (some (.cells (lineC a sn ow pr l))) = some (.val .bad (some (f, s, .cells (lineC a b ow pr l)))) := by
  rw [stO_cells, if_pos ⟨rfl, by rw [lc_len]; omega⟩]; rfl
theorem st_owner {n : Int} : stO 1 f s 1 [.int .i64 n] (some (.cells (lineC a sn ow pr l))) = some (.val .bad (some (f, s, .cells (lineC a sn n pr l)))) := by
  rw [stO_cells, if_pos ⟨rfl, by rw [lc_len]; omega⟩]; rfl
theorem st_prev {n : Int} : stO 1 f s 2 [.int .i64 n] (some (.cells (lineC a sn ow pr l))) = some (.val .bad (some (f, s, .cells (lineC a sn ow n l)))) := by
  rw [stO_cells, if_pos ⟨rfl, by rw [lc_len]; omega⟩]; rfl
theorem ra_ob (h : l[i]? = some o) : readAt Try.prog 64 (lineC a sn ow pr l) (5 + i * 3) = some (.agg o.cells) := by
  have := lt_of_get h
  rw [rd64, if_pos (by rw [lc_len]; omega), lc_ob h]
end

def Ob.is (o : Ob) (p : MObj) : Prop := o.kind = p.kind ∧ o.links = p.links ∧ IsBytes o.data p.data
structure ObsAt (l : List Ob) (m : List MObj) : Prop where
  len : l.length = m.length
  get : ∀ (i : Nat) (o : Ob) (p : MObj), l[i]? = some o → m[i]? = some p → o.is p
theorem ObsAt.at_ {l : List Ob} {m : List MObj} (h : ObsAt l m) {i : Nat} {p : MObj} (hp : m[i]? = some p) : ∃ o, l[i]? = some o ∧ o.is p := by
  have hi : i < m.length := (List.getElem?_eq_some_iff.1 hp).1
  have hl : i < l.length := by rw [h.len]; exact hi
  exact ⟨l[i], List.getElem?_eq_getElem hl, h.get i _ p (List.getElem?_eq_getElem hl) hp⟩
theorem ObsAt.set {l : List Ob} {m : List MObj} (h : ObsAt l m) (i : Nat) {o : Ob} {p : MObj} (hp : o.is p) : ObsAt (l.set i o) (m.set i p) := by
  refine ⟨by simp [h.len], fun j o' p' h1 h2 => ?_⟩
  rw [List.getElem?_set] at h1 h2
  by_cases e : i = j
  · subst e
    simp only [if_true] at h1 h2
    split at h1
    · split at h2
      · cases h1; cases h2; exact hp
      · cases h2
    · cases h1
  · simp only [e, if_false] at h1 h2
    exact h.get j o' p' h1 h2

structure Born (n : Nat) (bs : List Nat) (clk : Nat) : Prop where
  len : bs.length = n
  uniq : bs.Nodup
  lt : ∀ b ∈ bs, b < clk
theorem Born.add {n clk : Nat} {bs : List Nat} (h : Born n bs clk) : Born (n + 1) (bs ++ [clk]) (clk + 1) := by
  refine ⟨by simp [h.len], ?_, ?_⟩
  · rw [List.nodup_append]
    refine ⟨h.uniq, by simp, ?_⟩
    intro a ha b hb
    have := h.lt a ha
    simp at hb; omega
  · intro b hb
    rcases List.mem_append.1 hb with q | q
    · have := h.lt b q; omega
    · simp at q; omega
theorem Born.erase {n clk : Nat} {bs : List Nat} (h : Born (n + 1) bs clk) {i : Nat} (hi : i < n + 1) : Born n (bs.eraseIdx i) clk := by
  refine ⟨by rw [List.length_eraseIdx, h.len, if_pos hi]; omega, h.uniq.sublist (List.eraseIdx_sublist bs i), fun b hb => h.lt b (List.mem_of_mem_eraseIdx hb)⟩

structure LineAt (H : Heap) (a : Loc) (L : MLine) (l : List Ob) (bs : List Nat) (clk : Nat) : Prop where
  obs : ObsAt l L.objs
  cells : hget H a.f a.s = some (.cells (lineC a L.snap L.owner L.prev l))
  names : hget H a.nf a.ns = some (.map (encN L.names) bs clk)
  born : Born L.names.length bs clk
def LineIn (H : Heap) (a : Loc) (L : MLine) : Prop := ∃ l bs clk, LineAt H a L l bs clk

theorem LineAt.ne1 {H : Heap} {a : Loc} {L : MLine} {l : List Ob} {bs : List Nat} {clk : Nat} (h : LineAt H a L l bs clk) : ¬ (a.f = a.nf ∧ a.s = a.ns) := map_cells_ne h.cells h.names
theorem LineAt.ne2 {H : Heap} {a : Loc} {L : MLine} {l : List Ob} {bs : List Nat} {clk : Nat} (h : LineAt H a L l bs clk) : ¬ (a.nf = a.f ∧ a.ns = a.s) := map_cells_ne' h.cells h.names

end Go.Proofs.Ytebbgmeomkjibaa
end
