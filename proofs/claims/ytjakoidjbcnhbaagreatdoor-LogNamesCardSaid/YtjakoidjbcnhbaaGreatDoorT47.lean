/- This file holds in one the texts DU, DW, DP; each says at its head what it proves. -/
import Derived.Test.YtjakoidjbcnhbaaGreatDoorT31
import Derived.Test.YtjakoidjbcnhbaaGreatDoorT34
import Derived.Test.YtjakoidjbcnhbaaGreatDoorT39
import Derived.Test.YtjakoidjbcnhbaaGreatDoorT41
import Derived.Test.YtjakoidjbcnhbaaGreatDoorT46
set_option linter.unusedSimpArgs false
set_option linter.unusedVariables false
section
/- dev: Check and left, by plain functions. -/
set_option maxRecDepth 100000
namespace Go.Proofs.YtjakoidjbcnhbaaGreatDoor
open Go.AM Go.AM.BM
attribute [local irreducible] U W

theorem check_nil : CW Tryz.prog polD 61 [.agg [.nilslice, .nilslice]] [] fun x _ => x = .ret (.int .i64 8) := by
  refine cw_of Tryz.func61 rfl ?_
  have l1 : ∀ g, lenV Tryz.prog g 22 .nilslice = some (.int .i64 0) := fun g => IsSl.nil (esz := 1) |>.len Tryz.underlying22 g
  have l2 : ∀ g, lenV Tryz.prog g 23 .nilslice = some (.int .i64 0) := fun g => IsSl.nil (esz := 2) |>.len Tryz.underlying23 g
  simp only [tok_int, walk, walkL, evOp, quietOp, farOp, nov, gd, rho, putT, wr, Nat.reduceAdd, Nat.reduceSub, Bool.false_eq_true, if_true, if_false, reduceIte, reduceCtorEq, walkM, Int.reduceBEq, Int.reduceBNe, Int.reduceLT, Int.reduceLE, decide_true, decide_false, eq_self, Bool.not_true, Bool.not_false, ↓ev_fa, ↓ev_field, ↓ev_load, ↓ev_store, stO_cells, List.all_cons, List.all_nil, Bool.and_self, Bool.and_true, Tryz.ntmps61, ta61, new, hget, hset, fget, fset, List.modify_zero_cons, List.modify_succ_cons, List.modify_cons, Nat.reduceLT, Nat.reduceEqDiff, Nat.lt_irrefl, Nat.not_lt_zero, Nat.lt_add_one, splice, zerosN, fillV, walkB, pureL, V.pure, Nat.reduceMul, Nat.reduceLeDiff, Nat.one_ne_zero, and_self, and_true, true_and, List.take_zero, List.drop_succ_cons, List.drop_zero, List.take_succ_cons, List.replicate_one, Bool.and_self, Bool.and_true, List.drop_nil, List.take_nil, Nat.le_refl, Nat.zero_add, Nat.zero_mul, Nat.one_mul, Nat.mul_one, l1, l2]
  refine W.ul ?_
  refine W.loopS (kt := [1, 3, 19, 20, 21]) rfl (fun _ : Nat => st61_3 (.ptr 0 1 0) (.bool false) .nilslice (.int .i64 0) (.int .i64 0)) (fun _ => [[(1, .cells [.nilslice, .nilslice])]]) (fun _ => True) (fun i => i) ?_ 0 trivial rfl rfl
  rintro i hi
  simp only [st61_3]
  simp only [tok_int, walk, walkL, evOp, quietOp, farOp, nov, gd, rho, putT, wr, Nat.reduceAdd, Nat.reduceSub, Bool.false_eq_true, if_true, if_false, reduceIte, reduceCtorEq, walkM, Int.reduceBEq, Int.reduceBNe, Int.reduceLT, Int.reduceLE, decide_true, decide_false, eq_self, Bool.not_true, Bool.not_false, ↓ev_fa, ↓ev_field, ↓ev_load, ↓ev_store, stO_cells, List.all_cons, List.all_nil, Bool.and_self, Bool.and_true]
  refine W.done ?_
  simp only [tok_int, walk, walkL, evOp, quietOp, farOp, nov, gd, rho, putT, wr, Nat.reduceAdd, Nat.reduceSub, Bool.false_eq_true, if_true, if_false, reduceIte, reduceCtorEq, walkM, Int.reduceBEq, Int.reduceBNe, Int.reduceLT, Int.reduceLE, decide_true, decide_false, eq_self, Bool.not_true, Bool.not_false, ↓ev_fa, ↓ev_field, ↓ev_load, ↓ev_store, stO_cells, List.all_cons, List.all_nil, Bool.and_self, Bool.and_true, ta61, new, hget, hset, fget, fset, List.modify_zero_cons, List.modify_succ_cons, List.modify_cons, Nat.reduceLT, Nat.reduceEqDiff, Nat.lt_irrefl, Nat.not_lt_zero, Nat.lt_add_one, splice, zerosN, fillV, walkB, pureL, V.pure, Nat.reduceMul, Nat.reduceLeDiff, Nat.one_ne_zero, and_self, and_true, true_and, List.take_zero, List.drop_succ_cons, List.drop_zero, List.take_succ_cons, List.replicate_one, Bool.and_self, Bool.and_true, List.drop_nil, List.take_nil, Nat.le_refl, Nat.zero_add, Nat.zero_mul, Nat.one_mul, Nat.mul_one, l1, l2]
  refine W.ul ?_
  refine W.loop (fun (_ : Nat) t H => maskT [3, 33, 34, 35] t 0 = st61_8 (.bool false) .nilslice (.int .i64 0) (.int .i64 0) ∧ H = [[(1, .cells [.nilslice, .nilslice])]]) (fun i => i) ?_ 0 ⟨rfl, rfl⟩ rfl
  rintro i t H ⟨ht, rfl⟩
  have hd : ([[(1, .cells [.nilslice, .nilslice])]] : Heap).modify 0 (fdel fun s => [7].contains s) = [[(1, .cells [.nilslice, .nilslice])]] := rfl
  refine ⟨_, _, forget_drop (kt := [3, 33, 34, 35]) (ds := [7]) rfl ?_ ?_, ?_⟩
  · rw [ht]; rfl
  · rw [hd]; rfl
  rw [ht, hd]
  simp only [st61_8]
  simp only [tok_int, walk, walkL, evOp, quietOp, farOp, nov, gd, rho, putT, wr, Nat.reduceAdd, Nat.reduceSub, Bool.false_eq_true, if_true, if_false, reduceIte, reduceCtorEq, walkM, Int.reduceBEq, Int.reduceBNe, Int.reduceLT, Int.reduceLE, decide_true, decide_false, eq_self, Bool.not_true, Bool.not_false, ↓ev_fa, ↓ev_field, ↓ev_load, ↓ev_store, stO_cells, List.all_cons, List.all_nil, Bool.and_self, Bool.and_true]
  refine W.done ?_
  simp only [tok_int, walk, walkL, evOp, quietOp, farOp, nov, gd, rho, putT, wr, Nat.reduceAdd, Nat.reduceSub, Bool.false_eq_true, if_true, if_false, reduceIte, reduceCtorEq, walkM, Int.reduceBEq, Int.reduceBNe, Int.reduceLT, Int.reduceLE, decide_true, decide_false, eq_self, Bool.not_true, Bool.not_false, ↓ev_fa, ↓ev_field, ↓ev_load, ↓ev_store, stO_cells, List.all_cons, List.all_nil, Bool.and_self, Bool.and_true]
  exact W.done (End.ret (v := .int .i64 8) rfl rfl)
theorem kCheck_fz (ys : List V) (v : V) (h : kCheck ys = some v) : FzN Tryz.prog polD 61 ys v := by
  unfold kCheck at h
  split at h
  case h_3 => cases h
  · cases h
    obtain ⟨r, H, e, rfl⟩ := check_nil
    exact ⟨_, _, e, rfl⟩
  · rename_i bv wv _
    split at h
    case h_2 => cases h
    rename_i rv cs hb hw
    obtain ⟨cs, n⟩ := cs
    cases h
    obtain ⟨fl, rfl, h1, h2, h3⟩ := blocksC_ok hb
    obtain ⟨w1, w2, w3, w4, w5⟩ := waitsC_ok hw
    obtain ⟨r, H, e, rfl⟩ := check_cw rv fl _ h1 h2 wv cs n w1 w2 (waA cs) (waD cs) w3 w4
    exact ⟨_, _, e, rfl⟩
end Go.Proofs.YtjakoidjbcnhbaaGreatDoor
end
section
/- dev: left, by a plain function. -/
set_option maxRecDepth 100000
namespace Go.Proofs.YtjakoidjbcnhbaaGreatDoor
open Go.AM Go.AM.BM
attribute [local irreducible] U W

def seqN (a : Nat → Int) (dv : Nat → V) : Nat → List V → List V
  | 0, rv => rv
  | i + 1, rv => (seqN a dv i rv).set (a i).toNat (dv i)
theorem seqN_shift (a : Nat → Int) (dv : Nat → V) : ∀ (n : Nat) (rv : List V), seqN a dv (n + 1) rv = seqN (fun j => a (j + 1)) (fun j => dv (j + 1)) n (rv.set (a 0).toNat (dv 0))
  | 0, rv => rfl
  | n + 1, rv => by
    show (seqN a dv (n + 1) rv).set _ _ = _
    rw [seqN_shift a dv n rv]; rfl
theorem seqN_length (a : Nat → Int) (dv : Nat → V) : ∀ (n : Nat) (rv : List V), (seqN a dv n rv).length = rv.length
  | 0, _ => rfl
  | n + 1, rv => by rw [seqN, List.length_set, seqN_length a dv n rv]
theorem seqN_mem (a : Nat → Int) (dv : Nat → V) : ∀ (n : Nat) (rv : List V) (x : V), x ∈ seqN a dv n rv → x ∈ rv ∨ ∃ j, j < n ∧ x = dv j
  | 0, _, x, h => .inl h
  | n + 1, rv, x, h => by
    rcases List.mem_or_eq_of_mem_set h with h | rfl
    · rcases seqN_mem a dv n rv x h with h | ⟨j, hj, e⟩
      · exact .inl h
      · exact .inr ⟨j, by omega, e⟩
    · exact .inr ⟨n, by omega, rfl⟩
def waV (cs : List V) (j : Nat) : V := cs.getD (2 * j + 1) .bad
theorem applyW_seq : ∀ (n : Nat) (cs rv : List V), waitsOk cs = true → cs.length = n * 2 → applyW cs rv = seqN (waA cs) (waV cs) n rv
  | 0, cs, rv, _, h => by
    have : cs = [] := List.length_eq_zero_iff.1 (by omega)
    subst this; rfl
  | n + 1, [], rv, _, h => by simp at h
  | n + 1, [x], rv, _, h => by simp at h; omega
  | n + 1, x :: v :: r, rv, h, hl => by
    unfold waitsOk at h
    split at h
    · rename_i e; cases e
    · rename_i a v' r' e
      cases e
      simp only [Bool.and_eq_true] at h
      have ih := applyW_seq n r (rv.set a.toNat v) h.2 (by simp only [List.length_cons] at hl; omega)
      show applyW r (rv.set a.toNat v) = _
      rw [ih, seqN_shift]
      have e1 : (fun j => waA (.int .i64 a :: v :: r) (j + 1)) = waA r := by
        funext j
        simp only [waA]
        rw [show 2 * (j + 1) = 2 * j + 1 + 1 by omega, List.getD_cons_succ, List.getD_cons_succ]
      have e2 : (fun j => waV (.int .i64 a :: v :: r) (j + 1)) = waV r := by
        funext j
        simp only [waV]
        rw [show 2 * (j + 1) + 1 = 2 * j + 1 + 1 + 1 by omega, List.getD_cons_succ, List.getD_cons_succ]
      rw [e1, e2]; rfl
    · cases h
theorem updL_self : ∀ (L : List (Int × V)) (k : Int) (v : V), (k, v) ∈ updL L k v
  | [], k, v => by simp [updL]
  | (k', v') :: r, k, v => by
    simp only [updL]
    split
    · simp
    · exact List.mem_cons_of_mem _ (updL_self r k v)
theorem updL_keep : ∀ (L : List (Int × V)) (k : Int) (v : V) (x : Int × V), x.1 ≠ k → x ∈ L → x ∈ updL L k v
  | (k', v') :: r, k, v, x, hx, h => by
    simp only [updL]
    rcases List.mem_cons.1 h with rfl | h
    · rw [if_neg (fun e => hx e.symm)]; simp
    · split
      · exact List.mem_cons_of_mem _ h
      · exact List.mem_cons_of_mem _ (updL_keep r k v x hx h)
def applyA (L : List (Int × V)) (rv : List V) : List V := applyS L (List.range L.length) rv
theorem applyA_hit {L : List (Int × V)} (hn : (L.map Prod.fst).Nodup) (h0 : ∀ x ∈ L, 0 ≤ x.1) {x : Int × V} (hx : x ∈ L) {rv : List V} (hl : x.1.toNat < rv.length) : (applyA L rv)[x.1.toNat]? = some x.2 := by
  obtain ⟨b, hb⟩ := List.mem_iff_getElem?.1 hx
  exact applyS_hit L (fun b c k v w h1 h2 => nodup_keys hn b c k v w h1 h2) (fun b k v h => h0 _ (List.mem_of_getElem? h)) (k := x.1) (v := x.2) hb _ rv (List.mem_range.2 (List.getElem?_eq_some_iff.1 hb).1) hl
theorem applyA_miss {L : List (Int × V)} {i : Nat} (h : ∀ x ∈ L, x.1.toNat ≠ i) (rv : List V) : (applyA L rv)[i]? = rv[i]? :=
  applyS_miss L i _ rv fun b _ k v hb => h _ (List.mem_of_getElem? hb)
theorem applyA_upd {L : List (Int × V)} (hn : (L.map Prod.fst).Nodup) (h0 : ∀ x ∈ L, 0 ≤ x.1 ∧ x.1 < 256) (k : Int) (v : V) (k0 : 0 ≤ k) (k1 : k < 256) (rv : List V) (hl : rv.length = 256) : applyA (updL L k v) rv = (applyA L rv).set k.toNat v := by
  have hn2 := updL_nodup L k v hn
  have h2 : ∀ x ∈ updL L k v, 0 ≤ x.1 := fun x hx => by
    rcases updL_mem _ _ _ _ hx with rfl | hx
    · exact k0
    · exact (h0 x hx).1
  have la : (applyA L rv).length = 256 := by rw [applyA, applyS_length, hl]
  apply List.ext_getElem?
  intro i
  by_cases hi : i = k.toNat
  · subst hi
    have := applyA_hit hn2 h2 (updL_self L k v) (rv := rv) (by show k.toNat < _; omega)
    rw [List.getElem?_set, if_pos rfl, if_pos (by omega)]
    exact this
  · rw [List.getElem?_set, if_neg (fun e => hi e.symm)]
    by_cases hx : ∃ x ∈ L, x.1.toNat = i
    · obtain ⟨x, hx, rfl⟩ := hx
      have hk : x.1 ≠ k := fun e => hi (by rw [e])
      have b := h0 x hx
      rw [applyA_hit hn2 h2 (updL_keep L k v x hk hx) (by omega), applyA_hit hn (fun x hx => (h0 x hx).1) hx (by omega)]
    · have hm : ∀ x ∈ L, x.1.toNat ≠ i := fun x hx' e => hx ⟨x, hx', e⟩
      rw [applyA_miss hm, applyA_miss]
      intro x hx'
      rcases updL_mem _ _ _ _ hx' with rfl | h
      · exact fun e => hi e.symm
      · exact hm x h
theorem seqN_last (a : Nat → Int) (dv : Nat → V) (rv : List V) (hl : rv.length = 256) (n : Nat) (ha : ∀ j, j < n → 0 ≤ a j ∧ a j < 256) : ∀ i, i ≤ n → seqN a dv i rv = applyA (lastN a dv i) rv
  | 0, _ => rfl
  | i + 1, hi => by
    have q := ha i (by omega)
    show (seqN a dv i rv).set _ _ = applyA (updL (lastN a dv i) (a i) (dv i)) rv
    rw [applyA_upd (lastN_nodup a dv i) (fun x hx => ?_) (a i) (dv i) q.1 q.2 rv hl, seqN_last a dv rv hl n ha i (by omega)]
    obtain ⟨j, hj, e⟩ := lastN_mem2 a dv i x hx
    rw [e]; exact ha j (by omega)
theorem rows_of (l : List V) (h : ∀ x ∈ l, ∃ c f, x = .islice c 256 f ∧ Row256 c) (hl : l.length = 256) :
    (∀ i, i < 256 → ∃ f, l[i]? = some (.islice (rowC (l.getD i .bad)) 256 f)) ∧ ∀ i, i < 256 → Row256 (rowC (l.getD i .bad)) := by
  have key : ∀ i, i < 256 → ∃ c g, l[i]? = some (.islice c 256 g) ∧ l.getD i .bad = .islice c 256 g ∧ Row256 c := fun i hi => by
    have hl : i < l.length := by omega
    obtain ⟨c, g, e, hr⟩ := h l[i] (List.getElem_mem hl)
    have e1 : l[i]? = some (.islice c 256 g) := by rw [List.getElem?_eq_getElem hl, e]
    exact ⟨c, g, e1, by simp [List.getD, e1], hr⟩
  refine ⟨fun i hi => ?_, fun i hi => ?_⟩
  · obtain ⟨c, g, e1, e2, _⟩ := key i hi
    exact ⟨g, by rw [e1, e2]; rfl⟩
  · obtain ⟨c, g, _, e2, hr⟩ := key i hi
    rw [e2]; exact hr
theorem waitsC_ok' {wv : V} {cs : List V} {n : Nat} (h : waitsC wv = some (cs, n)) : waitsOk cs = true := by
  cases wv with
  | nilslice => cases h; rfl
  | islice xs m f =>
    simp only [waitsC] at h
    split at h
    case isFalse => cases h
    rename_i hc
    cases h
    simp only [Bool.and_eq_true] at hc
    exact hc.2
  | _ => cases h
theorem kLeft_fz (ys : List V) (v : V) (h : kLeft 112 ys = some v) : Fz Tryz.prog polD 111 ys (· = v) := by
  unfold kLeft at h
  split at h
  case h_2 => cases h
  rename_i bv wv f
  split at h
  case isFalse => cases h
  rename_i hf
  cases Nat.eq_of_beq_eq_true hf
  split at h
  case h_2 => cases h
  rename_i rv cs n hb hw
  cases h
  obtain ⟨fl, rfl, h1, h2, h3⟩ := blocksC_ok hb
  obtain ⟨w1, w2, w3, w4, w5⟩ := waitsC_ok hw
  have wok := waitsC_ok' hw
  have wv3 : ∀ j, j < n → ∃ c f, waV cs j = .islice c 256 f ∧ Row256 c ∧ cs[2 * j + 1]? = some (waV cs j) := fun j hj => by
    obtain ⟨_, f, e⟩ := w3 j hj
    have e2 : waV cs j = .islice (waD cs j) 256 f := by simp [waV, List.getD, e]
    exact ⟨_, f, e2, w5 j hj, by rw [e2]; exact e⟩
  have eA : applyW cs rv = applyS (lastN (waA cs) (waV cs) n) (List.range (lastN (waA cs) (waV cs) n).length) rv := by
    rw [applyW_seq n cs rv wok w1.1, seqN_last (waA cs) (waV cs) rv h1 n w4 n (Nat.le_refl n)]; rfl
  have hl2 : (applyW cs rv).length = 256 := by rw [applyW_seq n cs rv wok w1.1, seqN_length, h1]
  have hm : ∀ x ∈ applyW cs rv, ∃ c f, x = .islice c 256 f ∧ Row256 c := fun x hx => by
    rw [applyW_seq n cs rv wok w1.1] at hx
    rcases seqN_mem _ _ n rv x hx with hx | ⟨j, hj, rfl⟩
    · obtain ⟨i, hi⟩ := List.mem_iff_getElem?.1 hx
      have hi2 : i < 256 := by rw [← h1]; exact (List.getElem?_eq_some_iff.1 hi).1
      obtain ⟨f, e⟩ := h2 i hi2
      have := h3 i hi2
      rw [hi] at e
      cases e
      exact ⟨_, f, rfl, this⟩
    · obtain ⟨c, f, e, hc, _⟩ := wv3 j hj
      exact ⟨c, f, e, hc⟩
  obtain ⟨r1, r2⟩ := rows_of _ hm hl2
  have e3 := mkDisk_enc (applyW cs rv) [] 0 hl2 rfl (fun j hj => by omega)
  rw [← e3]
  exact left_fz rv fl _ h1 h2 h3 wv cs n w1 w2 (waA cs) (waV cs) (fun j hj => ⟨(w3 j hj).1, by obtain ⟨_, _, _, _, e⟩ := wv3 j hj; exact e⟩) w4 (fun j hj => by obtain ⟨c, f, e, hc, _⟩ := wv3 j hj; exact ⟨c, f, e, hc⟩) (fun i => rowC ((applyW cs rv).getD i .bad)) (fun i hi => by rw [← eA]; exact r1 i hi) r2
end Go.Proofs.YtjakoidjbcnhbaaGreatDoor
end
section
/- code: bytes of numbers. -/
set_option maxRecDepth 100000
namespace Go.Proofs.YtjakoidjbcnhbaaGreatDoor
open Go.AM Go.AM.BM
attribute [local irreducible] U W

def leB (n : Nat) : Nat → List UInt8
  | 0 => []
  | i + 1 => leB n i ++ [UInt8.ofNat (n / 256 ^ i)]
theorem leB_length (n : Nat) : ∀ i, (leB n i).length = i
  | 0 => rfl
  | i + 1 => by simp [leB, leB_length n i]
def putS (n : Nat) : Nat → V
  | 0 => .nilslice
  | i + 1 => .gslice 0 31 (ofBytes (leB n (i + 1))) (i + 1) 1
def putH : Nat → AM.Heap
  | 0 => [[]]
  | i + 1 => [[(31, .grow (i + 1))]]
def putV (n k : Nat) : V := if !(decide (0 < k) && decide (k ≤ 4)) || decide (256 ^ k ≤ n) then .tuple [.nilslice, .int .i64 2] else .tuple [.islice (ofBytes (leB n k)) k false, .int .i64 0]

theorem bytes_frzN (g : Get) (m : Nat) : ∀ l : List UInt8, frzL (frzN g (m + 1)) (ofBytes l) = some (ofBytes l)
  | [] => rfl
  | b :: l => by
    have := bytes_frzN g m l
    simp only [ofBytes, List.map_cons] at this ⊢
    exact frzL_cons rfl this
theorem put_cw (n k : Nat) (hn : n ≤ 281474976710656) (hk : k ≤ 4294967296) : CW Tryz.prog polD 159 [.int .i64 n, .int .i64 k] [] fun r H => ∃ v0, r = .ret v0 ∧ frzN (hget H) depth v0 = some (putV n k) ∧ frz (hget H) depth v0 = some (putV n k) := by
  refine cw_of Tryz.func159 rfl ?_
  obtain ⟨m, rfl, hm⟩ := (sized_fz k).op (by rfl) rfl
  have hm' : ∀ s H, _ := fun s H => hm 159 0 s H rfl
  have c0 : decide ((n : Int) < 0) = false := by simp
  have err : ∀ (T : List V), T.getD 4 .bad = .nilslice → T.getD 5 .bad = .int .i64 2 → putV n k = .tuple [.nilslice, .int .i64 2] → AM.End Tryz.prog Tryz.f159 0 (fun r H => ∃ v0, r = .ret v0 ∧ frzN (hget H) depth v0 = some (putV n k) ∧ frz (hget H) depth v0 = some (putV n k)) .ret T [[]] := by
    intro T h1 h2 h3
    refine End.ret (v := .tuple [.nilslice, .int .i64 2]) ?_ ⟨_, rfl, by rw [h3]; rfl, by rw [h3]; rfl⟩
    show (match resL Tryz.prog T [[]] [.tmp 4, .tmp 5] with | some [v] => some v | some vs => some (V.tuple vs) | none => none) = _
    simp only [resL, resOne, h1, h2]
  cases hs : (decide (0 < k) && decide (k ≤ 4)) with
  | false =>
    rw [hs] at hm'
    simp only [tok_int, walk, walkL, evOp, quietOp, farOp, nov, gd, rho, putT, wr, Nat.reduceAdd, Nat.reduceSub, Bool.false_eq_true, if_true, if_false, reduceIte, reduceCtorEq, walkM, Int.reduceBEq, Int.reduceBNe, Int.reduceLT, Int.reduceLE, decide_true, decide_false, eq_self, Bool.not_true, Bool.not_false, ↓ev_fa, ↓ev_field, ↓ev_load, ↓ev_store, stO_cells, List.all_cons, List.all_nil, Bool.and_self, Bool.and_true, Tryz.ntmps159, ta159, new, hget, hset, fget, fset, List.modify_zero_cons, List.modify_succ_cons, List.modify_cons, Nat.reduceLT, Nat.reduceEqDiff, Nat.lt_irrefl, Nat.not_lt_zero, Nat.lt_add_one, splice, zerosN, fillV, walkB, pureL, V.pure, Nat.reduceMul, Nat.reduceLeDiff, Nat.one_ne_zero, and_self, and_true, true_and, List.take_zero, List.drop_succ_cons, List.drop_zero, List.take_succ_cons, List.replicate_one, Bool.and_self, Bool.and_true, List.drop_nil, List.take_nil, Nat.le_refl, Nat.zero_add, Nat.zero_mul, Nat.one_mul, Nat.mul_one, hm']
    refine W.done (err _ rfl rfl ?_)
    simp [putV, hs]
  | true =>
    rw [hs] at hm'
    have hk4 : 0 < k ∧ k ≤ 4 := by simpa using hs
    have m8 : (IntKind.i64).wrap (8 * (k : Int)) = ((8 * k : Nat) : Int) := by rw [wrap_i64] <;> omega
    have sh : ∀ p q, binV Tryz.prog .shl 3 p q (.int .i64 1) (.int .i64 ((8 * k : Nat) : Int)) = some (.int .i64 ((256 ^ k : Nat) : Int)) := fun p q => by
      obtain ⟨h1, h2⟩ := hk4
      have : k = 1 ∨ k = 2 ∨ k = 3 ∨ k = 4 := by omega
      rcases this with rfl | rfl | rfl | rfl <;> rfl
    have cg : decide ((n : Int) ≥ ((256 ^ k : Nat) : Int)) = decide (256 ^ k ≤ n) := by simp only [ge_iff_le, Int.ofNat_le]
    simp only [tok_int, walk, walkL, evOp, quietOp, farOp, nov, gd, rho, putT, wr, Nat.reduceAdd, Nat.reduceSub, Bool.false_eq_true, if_true, if_false, reduceIte, reduceCtorEq, walkM, Int.reduceBEq, Int.reduceBNe, Int.reduceLT, Int.reduceLE, decide_true, decide_false, eq_self, Bool.not_true, Bool.not_false, ↓ev_fa, ↓ev_field, ↓ev_load, ↓ev_store, stO_cells, List.all_cons, List.all_nil, Bool.and_self, Bool.and_true, Tryz.ntmps159, ta159, new, hget, hset, fget, fset, List.modify_zero_cons, List.modify_succ_cons, List.modify_cons, Nat.reduceLT, Nat.reduceEqDiff, Nat.lt_irrefl, Nat.not_lt_zero, Nat.lt_add_one, splice, zerosN, fillV, walkB, pureL, V.pure, Nat.reduceMul, Nat.reduceLeDiff, Nat.one_ne_zero, and_self, and_true, true_and, List.take_zero, List.drop_succ_cons, List.drop_zero, List.take_succ_cons, List.replicate_one, Bool.and_self, Bool.and_true, List.drop_nil, List.take_nil, Nat.le_refl, Nat.zero_add, Nat.zero_mul, Nat.one_mul, Nat.mul_one, hm', c0, m8, sh, cg]
    refine W.ite (fun h => ?_) (fun h => ?_)
    · simp only [tok_int, walk, walkL, evOp, quietOp, farOp, nov, gd, rho, putT, wr, Nat.reduceAdd, Nat.reduceSub, Bool.false_eq_true, if_true, if_false, reduceIte, reduceCtorEq, walkM, Int.reduceBEq, Int.reduceBNe, Int.reduceLT, Int.reduceLE, decide_true, decide_false, eq_self, Bool.not_true, Bool.not_false, ↓ev_fa, ↓ev_field, ↓ev_load, ↓ev_store, stO_cells, List.all_cons, List.all_nil, Bool.and_self, Bool.and_true]
      refine W.done (err _ rfl rfl ?_)
      simp only [decide_eq_true_eq] at h
      simp [putV, hs, h]
    · have hv : putV n k = .tuple [.islice (ofBytes (leB n k)) k false, .int .i64 0] := by
        simp only [putV, hs, h]; rfl
      rw [hv]
      simp only [tok_int, walk, walkL, evOp, quietOp, farOp, nov, gd, rho, putT, wr, Nat.reduceAdd, Nat.reduceSub, Bool.false_eq_true, if_true, if_false, reduceIte, reduceCtorEq, walkM, Int.reduceBEq, Int.reduceBNe, Int.reduceLT, Int.reduceLE, decide_true, decide_false, eq_self, Bool.not_true, Bool.not_false, ↓ev_fa, ↓ev_field, ↓ev_load, ↓ev_store, stO_cells, List.all_cons, List.all_nil, Bool.and_self, Bool.and_true, ta159, new, hget, hset, fget, fset, List.modify_zero_cons, List.modify_succ_cons, List.modify_cons, Nat.reduceLT, Nat.reduceEqDiff, Nat.lt_irrefl, Nat.not_lt_zero, Nat.lt_add_one, splice, zerosN, fillV, walkB, pureL, V.pure, Nat.reduceMul, Nat.reduceLeDiff, Nat.one_ne_zero, and_self, and_true, true_and, List.take_zero, List.drop_succ_cons, List.drop_zero, List.take_succ_cons, List.replicate_one, Bool.and_self, Bool.and_true, List.drop_nil, List.take_nil, Nat.le_refl, Nat.zero_add, Nat.zero_mul, Nat.one_mul, Nat.mul_one]
      refine W.ul ?_
      refine W.loopS (kt := [0, 1, 6]) rfl (fun i : Nat => st159_4 (.int .i64 ((n / 256 ^ i : Nat) : Int)) (.int .i64 k) (putS n i)) putH (fun i => i ≤ k) (fun i => k - i) ?_ 0 (Nat.zero_le _) (by simp only [Nat.pow_zero, Nat.div_one]; rfl) rfl
      intro i hi
      simp only [st159_4]
      have len : ∀ g, lenV Tryz.prog g 26 (putS n i) = some (.int .i64 (i : Nat)) := fun g => by
        cases i with
        | zero => exact ln_nil Tryz.underlying26
        | succ i => exact len_g Tryz.underlying26 g
      by_cases h2 : i < k
      · have c1 : decide ((i : Int) < k) = true := by simp only [decide_eq_true_eq]; omega
        generalize hN : n / 256 ^ i = N
        have hNn : N ≤ n := by rw [← hN]; exact Nat.div_le_self _ _
        have cv : ∀ g, convertV Tryz.prog g 3 5 (.int .i64 N) = some (.val (.int .u8 ((UInt8.ofNat N).toNat : Nat)) none) := fun g => by
          simp only [convertV, Tryz.underlying3, Tryz.underlying5]
          have : (IntKind.u8).wrap (N : Int) = ((UInt8.ofNat N).toNat : Int) := by
            rw [IntKind.wrap_u8, UInt8.toNat_ofNat']; omega
          simp only [this]
        have q : ∀ x y, binV Tryz.prog .quo 3 x y (.int .i64 N) (.int .i64 256) = some (.int .i64 ((N / 256 : Nat) : Int)) := fun x y => by
          have e : (N : Int).tdiv 256 = ((N / 256 : Nat) : Int) := by
            rw [Int.tdiv_eq_ediv_of_nonneg (by omega)]; omega
          have w : (IntKind.i64).wrap ((N / 256 : Nat) : Int) = ((N / 256 : Nat) : Int) := by rw [wrap_i64] <;> omega
          show some (V.int .i64 ((IntKind.i64).wrap ((N : Int).tdiv 256))) = _
          rw [e, w]
        have ap : appendV Tryz.prog (polD.mt 159) 0 (hget (putH i)) (some 31) 26 26 (putS n i) (.islice [.int .u8 ((UInt8.ofNat N).toNat : Nat)] 1 true) = some (.val (putS n (i + 1)) (some (0, 31, .grow (i + 1)))) := by
          have mt : polD.mt 159 31 = false := rfl
          have e2 : ofBytes (leB n (i + 1)) = ofBytes (leB n i) ++ [.int .u8 ((UInt8.ofNat N).toNat : Nat)] := by rw [leB, ofBytes_append, hN]; rfl
          cases i with
          | zero =>
            rw [putS, putS, app_nil Tryz.underlying26 sz5 by8' zc5 rfl Tryz.underlying26 (m := 1) (cs := [.int .u8 ((UInt8.ofNat N).toNat : Nat)]) rfl (by omega) (by decide), grown_im mt rfl rfl, e2]
            rfl
          | succ i =>
            rw [putS, putS, app_more Tryz.underlying26 sz5 by8' zc5 rfl Tryz.underlying26 (cs := [.int .u8 ((UInt8.ofNat N).toNat : Nat)]) (m := 1) rfl (by omega) (roomy_of (by omega) (by omega)) rfl rfl rfl, e2]
        have hs2 : List.modify (putH i) 0 (fun fr => fset fr 31 (.grow (i + 1))) = putH (i + 1) := by cases i <;> rfl
        have mt : ∀ s, polD.mt 159 s = false := fun s => rfl
        generalize putS n i = S at *
        generalize putH i = K at *
        simp only [tok_int, walk, walkL, evOp, quietOp, farOp, nov, gd, rho, putT, wr, Nat.reduceAdd, Nat.reduceSub, Bool.false_eq_true, if_true, if_false, reduceIte, reduceCtorEq, walkM, Int.reduceBEq, Int.reduceBNe, Int.reduceLT, Int.reduceLE, decide_true, decide_false, eq_self, Bool.not_true, Bool.not_false, ↓ev_fa, ↓ev_field, ↓ev_load, ↓ev_store, stO_cells, List.all_cons, List.all_nil, Bool.and_self, Bool.and_true, ta159, new, hget, hset, fget, fset, List.modify_zero_cons, List.modify_succ_cons, List.modify_cons, Nat.reduceLT, Nat.reduceEqDiff, Nat.lt_irrefl, Nat.not_lt_zero, Nat.lt_add_one, splice, zerosN, fillV, walkB, pureL, V.pure, Nat.reduceMul, Nat.reduceLeDiff, Nat.one_ne_zero, and_self, and_true, true_and, List.take_zero, List.drop_succ_cons, List.drop_zero, List.take_succ_cons, List.replicate_one, Bool.and_self, Bool.and_true, List.drop_nil, List.take_nil, Nat.le_refl, Nat.zero_add, Nat.zero_mul, Nat.one_mul, Nat.mul_one, len, c1, cv, q, mt, bi_append, ap, hs2, Tryz.underlying26]
        refine W.done ⟨i + 1, ?_, rfl, h2, by omega⟩
        have : n / 256 ^ (i + 1) = N / 256 := by rw [Nat.pow_succ, ← Nat.div_div_eq_div_mul, hN]
        rw [this]; rfl
      · have hik : i = k := by omega
        subst hik
        have c1 : decide ((i : Int) < i) = false := by simp
        simp only [tok_int, walk, walkL, evOp, quietOp, farOp, nov, gd, rho, putT, wr, Nat.reduceAdd, Nat.reduceSub, Bool.false_eq_true, if_true, if_false, reduceIte, reduceCtorEq, walkM, Int.reduceBEq, Int.reduceBNe, Int.reduceLT, Int.reduceLE, decide_true, decide_false, eq_self, Bool.not_true, Bool.not_false, ↓ev_fa, ↓ev_field, ↓ev_load, ↓ev_store, stO_cells, List.all_cons, List.all_nil, Bool.and_self, Bool.and_true, ta159, new, hget, hset, fget, fset, List.modify_zero_cons, List.modify_succ_cons, List.modify_cons, Nat.reduceLT, Nat.reduceEqDiff, Nat.lt_irrefl, Nat.not_lt_zero, Nat.lt_add_one, splice, zerosN, fillV, walkB, pureL, V.pure, Nat.reduceMul, Nat.reduceLeDiff, Nat.one_ne_zero, and_self, and_true, true_and, List.take_zero, List.drop_succ_cons, List.drop_zero, List.take_succ_cons, List.replicate_one, Bool.and_self, Bool.and_true, List.drop_nil, List.take_nil, Nat.le_refl, Nat.zero_add, Nat.zero_mul, Nat.one_mul, Nat.mul_one, len, c1]
        refine W.done ?_
        simp only [tok_int, walk, walkL, evOp, quietOp, farOp, nov, gd, rho, putT, wr, Nat.reduceAdd, Nat.reduceSub, Bool.false_eq_true, if_true, if_false, reduceIte, reduceCtorEq, walkM, Int.reduceBEq, Int.reduceBNe, Int.reduceLT, Int.reduceLE, decide_true, decide_false, eq_self, Bool.not_true, Bool.not_false, ↓ev_fa, ↓ev_field, ↓ev_load, ↓ev_store, stO_cells, List.all_cons, List.all_nil, Bool.and_self, Bool.and_true, ta159, new, hget, hset, fget, fset, List.modify_zero_cons, List.modify_succ_cons, List.modify_cons, Nat.reduceLT, Nat.reduceEqDiff, Nat.lt_irrefl, Nat.not_lt_zero, Nat.lt_add_one, splice, zerosN, fillV, walkB, pureL, V.pure, Nat.reduceMul, Nat.reduceLeDiff, Nat.one_ne_zero, and_self, and_true, true_and, List.take_zero, List.drop_succ_cons, List.drop_zero, List.take_succ_cons, List.replicate_one, Bool.and_self, Bool.and_true, List.drop_nil, List.take_nil, Nat.le_refl, Nat.zero_add, Nat.zero_mul, Nat.one_mul, Nat.mul_one]
        obtain ⟨j, rfl⟩ : ∃ j, i = j + 1 := ⟨i - 1, by omega⟩
        refine W.done (End.ret (v := .tuple [.gslice 0 31 (ofBytes (leB n (j + 1))) (j + 1) 1, .int .i64 0]) rfl ⟨_, rfl, ?_, ?_⟩) <;> rw [popF_keep rfl]
        · have fl : frzL (frzN (hget (putH (j + 1))) 10) (ofBytes (leB n (j + 1))) = some (ofBytes (leB n (j + 1))) := bytes_frzN _ _ _
          have f1 : frzN (hget (putH (j + 1))) 11 (.gslice 0 31 (ofBytes (leB n (j + 1))) (j + 1) 1) = some (.islice (ofBytes (leB n (j + 1))) (j + 1) false) := by
            show (if j + 1 = j + 1 then (frzL (frzN (hget (putH (j + 1))) 10) (ofBytes (leB n (j + 1)))).map _ else none) = _
            rw [fl, if_pos rfl]; rfl
          show (frzL (frzN _ 11) [V.gslice 0 31 (ofBytes (leB n (j + 1))) (j + 1) 1, .int .i64 0]).map _ = _
          rw [frzL_cons f1 (frzL_cons (y := .int .i64 0) rfl rfl)]; rfl
        · have f1 := frz_gs (l := leB n (j + 1)) (f := 0) (s := 31) (n := j + 1) (e := 1) (hget (putH (j + 1))) 9
          show (frzL (frz _ 11) [V.gslice 0 31 (ofBytes (leB n (j + 1))) (j + 1) 1, .int .i64 0]).map _ = _
          rw [frzL_cons f1 (frzL_cons (y := .int .i64 0) rfl rfl)]; rfl
end Go.Proofs.YtjakoidjbcnhbaaGreatDoor
end
