/- This file holds in one the texts ZO43; each says at its head what it proves. -/
import Derived.Test.YtebbgmeomkjibaaGreatI49
import Derived.Test.YtebbgmeomkjibaaGreatI54
set_option linter.unusedSimpArgs false
set_option linter.unusedVariables false
section
/- model: asks; lists of calls that are known. -/
set_option maxRecDepth 100000
namespace Go.Proofs.YtebbgmeomkjibaaGreat
open Go.AM Go.Mod

attribute [local irreducible] U W

def looksAt (id : Int) (nm : Bytes) : List MCall := [⟨18, id, 0, 0, [], [], [], []⟩, ⟨14, id, 3840, 0, nm, [], [], []⟩, ⟨17, id, 0, 0, nm, [], [], []⟩]
def asksC (id : Int) (nm : Bytes) : List V := [.int .u8 18, .int .i64 id, .int .i64 0, .int .i64 0, .str [], .str [], .str [], .nilslice, .int .u8 14, .int .i64 id, .int .i64 3840, .int .i64 0, .str nm, .str [], .str [], .nilslice, .int .u8 17, .int .i64 id, .int .i64 0, .int .i64 0, .str nm, .str [], .str [], .nilslice]
def loadC (id : Int) : List V := [.int .u8 7, .int .i64 id, .int .i64 0, .int .i64 0, .str [], .str [], .str [112], .nilslice]
def unloadC (id : Int) : List V := [.int .u8 8, .int .i64 id, .int .i64 0, .int .i64 0, .str [], .str [], .str [], .nilslice]
theorem looks_are (i : Int) (nm : Bytes) : ∀ c ∈ looksAt i nm, isLook c.kind = true ∧ c.a = i := by
  intro c hc
  simp only [looksAt, List.mem_cons, List.not_mem_nil, or_false] at hc
  rcases hc with rfl | rfl | rfl <;> exact ⟨rfl, rfl⟩
theorem asks_ok (i : Int) {nm : Bytes} (h : nm.length ≤ 1000) : CallsC (asksC i nm) (looksAt i nm) :=
  ⟨.nilslice, _, rfl, ⟨IsBytes.nil, Nat.zero_le _, Nat.zero_le _, Nat.zero_le _, Nat.zero_le _⟩, .nilslice, _, rfl, ⟨IsBytes.nil, by show nm.length ≤ 100000; omega, Nat.zero_le _, Nat.zero_le _, Nat.zero_le _⟩, .nilslice, [], rfl, ⟨IsBytes.nil, by show nm.length ≤ 100000; omega, Nat.zero_le _, Nat.zero_le _, Nat.zero_le _⟩, rfl⟩
theorem load_ok (i : Int) : CallsC (loadC i) [loadAt i] := ⟨.nilslice, [], rfl, ⟨IsBytes.nil, Nat.zero_le _, Nat.zero_le _, by show 1 ≤ 100000; omega, Nat.zero_le _⟩, rfl⟩
theorem unload_ok (i : Int) : CallsC (unloadC i) [unloadAt i] := ⟨.nilslice, [], rfl, ⟨IsBytes.nil, Nat.zero_le _, Nat.zero_le _, Nat.zero_le _, Nat.zero_le _⟩, rfl⟩
theorem asks_fz (i : Int) (nm : Bytes) : Fz Tryz.prog pol 12 [.int .i64 i, .str nm] fun r => r = .islice (asksC i nm) 3 true := by
  refine fz_of Tryz.func12 rfl ?_
  have m13 : pol.mt 12 13 = false := rfl
  simp only [walk, walkL, evOp, quietOp, farOp, nov, gd, rho, putT, wr, Nat.reduceAdd, Nat.reduceSub, Bool.false_eq_true, if_true, if_false, reduceIte, reduceCtorEq, walkM, Int.reduceBEq, Int.reduceBNe, Int.reduceLT, Int.reduceLE, decide_true, decide_false, eq_self, Bool.not_true, Bool.not_false, ↓ev_fa, ↓ev_field, ↓ev_load, ↓ev_store, stO_cells, List.all_cons, List.all_nil, Bool.and_self, Bool.and_true, Tryz.ntmps12, ta12, splice, zerosN, fillV, walkB, pureL, V.pure, Nat.reduceMul, Nat.reduceLeDiff, Nat.one_ne_zero, and_self, and_true, true_and, List.take_zero, List.drop_succ_cons, List.drop_zero, List.take_succ_cons, List.replicate_one, List.drop_nil, List.take_nil, Nat.le_refl, Nat.zero_add, Nat.zero_mul, Nat.one_mul, Nat.mul_one, Tryz.underlying22, m13]
  exact W.done (EndZ.ret rfl rfl rfl)
end Go.Proofs.YtebbgmeomkjibaaGreat
end
