/- This file holds in one the texts DW, DP, DQ, DR; each says at its head what it proves. -/
import Derived.Test.YtafhcdagifopeaaGreatDoorT29
import Derived.Test.YtafhcdagifopeaaGreatDoorT31
import Derived.Test.YtafhcdagifopeaaGreatDoorT36
import Derived.Test.YtafhcdagifopeaaGreatDoorT38
import Derived.Test.YtafhcdagifopeaaGreatDoorT39
import Derived.Test.YtafhcdagifopeaaGreatDoorT42
set_option linter.unusedSimpArgs false
set_option linter.unusedVariables false
section
/- dev: left, by a plain function. -/
set_option maxRecDepth 100000
namespace Go.Proofs.YtafhcdagifopeaaGreatDoor
open Go.AM Go.AM.BM
attribute [local irreducible] U W

def seqN (a : Nat → Int) (dv : Nat → V) : Nat → List V → List V
  | 0, rv => rv
  | i + 1, rv => (seqN a dv i rv).set (a i).toNat (dv i)
theorem seqN_shift (a : Nat → Int) (dv : Nat → V) : ∀ (n : Nat) (rv : List V), seqN a dv (n + 1) rv = seqN (fun j => a (j + 1)) (fun j => dv (j + 1)) n (rv.set (a 0).toNat (dv 0))
  | 0, rv => rfl
  | n + 1, rv => by
    show (seqN a dv (n + 1) rv).set _ _ = _
    rw [seqN_shift a dv n rv]; rfl
theorem seqN_length (a : Nat → Int) (dv : Nat → V) : ∀ (n : Nat) (rv : List V), (seqN a dv n rv).length = rv.length
  | 0, _ => rfl
  | n + 1, rv => by rw [seqN, List.length_set, seqN_length a dv n rv]
theorem seqN_mem (a : Nat → Int) (dv : Nat → V) : ∀ (n : Nat) (rv : List V) (x : V), x ∈ seqN a dv n rv → x ∈ rv ∨ ∃ j, j < n ∧ x = dv j
  | 0, _, x, h => .inl h
  | n + 1, rv, x, h => by
    rcases List.mem_or_eq_of_mem_set h with h | rfl
    · rcases seqN_mem a dv n rv x h with h | ⟨j, hj, e⟩
      · exact .inl h
      · exact .inr ⟨j, by omega, e⟩
    · exact .inr ⟨n, by omega, rfl⟩
def waV (cs : List V) (j : Nat) : V := cs.getD (2 * j + 1) .bad
theorem applyW_seq : ∀ (n : Nat) (cs rv : List V), waitsOk cs = true → cs.length = n * 2 → applyW cs rv = seqN (waA cs) (waV cs) n rv
  | 0, cs, rv, _, h => by
    have : cs = [] := List.length_eq_zero_iff.1 (by omega)
    subst this; rfl
  | n + 1, [], rv, _, h => by simp at h
  | n + 1, [x], rv, _, h => by simp at h; omega
  | n + 1, x :: v :: r, rv, h, hl => by
    unfold waitsOk at h
    split at h
    · rename_i e; cases e
    · rename_i a v' r' e
      cases e
      simp only [Bool.and_eq_true] at h
      have ih := applyW_seq n r (rv.set a.toNat v) h.2 (by simp only [List.length_cons] at hl; omega)
      show applyW r (rv.set a.toNat v) = _
      rw [ih, seqN_shift]
      have e1 : (fun j => waA (.int .i64 a :: v :: r) (j + 1)) = waA r := by
        funext j
        simp only [waA]
        rw [show 2 * (j + 1) = 2 * j + 1 + 1 by omega, List.getD_cons_succ, List.getD_cons_succ]
      have e2 : (fun j => waV (.int .i64 a :: v :: r) (j + 1)) = waV r := by
        funext j
        simp only [waV]
        rw [show 2 * (j + 1) + 1 = 2 * j + 1 + 1 + 1 by omega, List.getD_cons_succ, List.getD_cons_succ]
      rw [e1, e2]; rfl
    · cases h
theorem updL_self : ∀ (L : List (Int × V)) (k : Int) (v : V), (k, v) ∈ updL L k v
  | [], k, v => by simp [updL]
  | (k', v') :: r, k, v => by
    simp only [updL]
    split
    · simp
    · exact List.mem_cons_of_mem _ (updL_self r k v)
theorem updL_keep : ∀ (L : List (Int × V)) (k : Int) (v : V) (x : Int × V), x.1 ≠ k → x ∈ L → x ∈ updL L k v
  | (k', v') :: r, k, v, x, hx, h => by
    simp only [updL]
    rcases List.mem_cons.1 h with rfl | h
    · rw [if_neg (fun e => hx e.symm)]; simp
    · split
      · exact List.mem_cons_of_mem _ h
      · exact List.mem_cons_of_mem _ (updL_keep r k v x hx h)
def applyA (L : List (Int × V)) (rv : List V) : List V := applyS L (List.range L.length) rv
theorem applyA_hit {L : List (Int × V)} (hn : (L.map Prod.fst).Nodup) (h0 : ∀ x ∈ L, 0 ≤ x.1) {x : Int × V} (hx : x ∈ L) {rv : List V} (hl : x.1.toNat < rv.length) : (applyA L rv)[x.1.toNat]? = some x.2 := by
  obtain ⟨b, hb⟩ := List.mem_iff_getElem?.1 hx
  exact applyS_hit L (fun b c k v w h1 h2 => nodup_keys hn b c k v w h1 h2) (fun b k v h => h0 _ (List.mem_of_getElem? h)) (k := x.1) (v := x.2) hb _ rv (List.mem_range.2 (List.getElem?_eq_some_iff.1 hb).1) hl
theorem applyA_miss {L : List (Int × V)} {i : Nat} (h : ∀ x ∈ L, x.1.toNat ≠ i) (rv : List V) : (applyA L rv)[i]? = rv[i]? :=
  applyS_miss L i _ rv fun b _ k v hb => h _ (List.mem_of_getElem? hb)
theorem applyA_upd {L : List (Int × V)} (hn : (L.map Prod.fst).Nodup) (h0 : ∀ x ∈ L, 0 ≤ x.1 ∧ x.1 < 256) (k : Int) (v : V) (k0 : 0 ≤ k) (k1 : k < 256) (rv : List V) (hl : rv.length = 256) : applyA (updL L k v) rv = (applyA L rv).set k.toNat v := by
  have hn2 := updL_nodup L k v hn
  have h2 : ∀ x ∈ updL L k v, 0 ≤ x.1 := fun x hx => by
    rcases updL_mem _ _ _ _ hx with rfl | hx
    · exact k0
    · exact (h0 x hx).1
  have la : (applyA L rv).length = 256 := by rw [applyA, applyS_length, hl]
  apply List.ext_getElem?
  intro i
  by_cases hi : i = k.toNat
  · subst hi
    have := applyA_hit hn2 h2 (updL_self L k v) (rv := rv) (by show k.toNat < _; omega)
    rw [List.getElem?_set, if_pos rfl, if_pos (by omega)]
    exact this
  · rw [List.getElem?_set, if_neg (fun e => hi e.symm)]
    by_cases hx : ∃ x ∈ L, x.1.toNat = i
    · obtain ⟨x, hx, rfl⟩ := hx
      have hk : x.1 ≠ k := fun e => hi (by rw [e])
      have b := h0 x hx
      rw [applyA_hit hn2 h2 (updL_keep L k v x hk hx) (by omega), applyA_hit hn (fun x hx => (h0 x hx).1) hx (by omega)]
    · have hm : ∀ x ∈ L, x.1.toNat ≠ i := fun x hx' e => hx ⟨x, hx', e⟩
      rw [applyA_miss hm, applyA_miss]
      intro x hx'
      rcases updL_mem _ _ _ _ hx' with rfl | h
      · exact fun e => hi e.symm
      · exact hm x h
theorem seqN_last (a : Nat → Int) (dv : Nat → V) (rv : List V) (hl : rv.length = 256) (n : Nat) (ha : ∀ j, j < n → 0 ≤ a j ∧ a j < 256) : ∀ i, i ≤ n → seqN a dv i rv = applyA (lastN a dv i) rv
  | 0, _ => rfl
  | i + 1, hi => by
    have q := ha i (by omega)
    show (seqN a dv i rv).set _ _ = applyA (updL (lastN a dv i) (a i) (dv i)) rv
    rw [applyA_upd (lastN_nodup a dv i) (fun x hx => ?_) (a i) (dv i) q.1 q.2 rv hl, seqN_last a dv rv hl n ha i (by omega)]
    obtain ⟨j, hj, e⟩ := lastN_mem2 a dv i x hx
    rw [e]; exact ha j (by omega)
theorem rows_of (l : List V) (h : ∀ x ∈ l, ∃ c f, x = .islice c 256 f ∧ Row256 c) (hl : l.length = 256) :
    (∀ i, i < 256 → ∃ f, l[i]? = some (.islice (rowC (l.getD i .bad)) 256 f)) ∧ ∀ i, i < 256 → Row256 (rowC (l.getD i .bad)) := by
  have key : ∀ i, i < 256 → ∃ c g, l[i]? = some (.islice c 256 g) ∧ l.getD i .bad = .islice c 256 g ∧ Row256 c := fun i hi => by
    have hl : i < l.length := by omega
    obtain ⟨c, g, e, hr⟩ := h l[i] (List.getElem_mem hl)
    have e1 : l[i]? = some (.islice c 256 g) := by rw [List.getElem?_eq_getElem hl, e]
    exact ⟨c, g, e1, by simp [List.getD, e1], hr⟩
  refine ⟨fun i hi => ?_, fun i hi => ?_⟩
  · obtain ⟨c, g, e1, e2, _⟩ := key i hi
    exact ⟨g, by rw [e1, e2]; rfl⟩
  · obtain ⟨c, g, _, e2, hr⟩ := key i hi
    rw [e2]; exact hr
theorem waitsC_ok' {wv : V} {cs : List V} {n : Nat} (h : waitsC wv = some (cs, n)) : waitsOk cs = true := by
  cases wv with
  | nilslice => cases h; rfl
  | islice xs m f =>
    simp only [waitsC] at h
    split at h
    case isFalse => cases h
    rename_i hc
    cases h
    simp only [Bool.and_eq_true] at hc
    exact hc.2
  | _ => cases h
theorem kLeft_fz (ys : List V) (v : V) (h : kLeft 178 ys = some v) : Fz Tryz.prog polD 177 ys (· = v) := by
  unfold kLeft at h
  split at h
  case h_2 => cases h
  rename_i bv wv f
  split at h
  case isFalse => cases h
  rename_i hf
  cases Nat.eq_of_beq_eq_true hf
  split at h
  case h_2 => cases h
  rename_i rv cs n hb hw
  cases h
  obtain ⟨fl, rfl, h1, h2, h3⟩ := blocksC_ok hb
  obtain ⟨w1, w2, w3, w4, w5⟩ := waitsC_ok hw
  have wok := waitsC_ok' hw
  have wv3 : ∀ j, j < n → ∃ c f, waV cs j = .islice c 256 f ∧ Row256 c ∧ cs[2 * j + 1]? = some (waV cs j) := fun j hj => by
    obtain ⟨_, f, e⟩ := w3 j hj
    have e2 : waV cs j = .islice (waD cs j) 256 f := by simp [waV, List.getD, e]
    exact ⟨_, f, e2, w5 j hj, by rw [e2]; exact e⟩
  have eA : applyW cs rv = applyS (lastN (waA cs) (waV cs) n) (List.range (lastN (waA cs) (waV cs) n).length) rv := by
    rw [applyW_seq n cs rv wok w1.1, seqN_last (waA cs) (waV cs) rv h1 n w4 n (Nat.le_refl n)]; rfl
  have hl2 : (applyW cs rv).length = 256 := by rw [applyW_seq n cs rv wok w1.1, seqN_length, h1]
  have hm : ∀ x ∈ applyW cs rv, ∃ c f, x = .islice c 256 f ∧ Row256 c := fun x hx => by
    rw [applyW_seq n cs rv wok w1.1] at hx
    rcases seqN_mem _ _ n rv x hx with hx | ⟨j, hj, rfl⟩
    · obtain ⟨i, hi⟩ := List.mem_iff_getElem?.1 hx
      have hi2 : i < 256 := by rw [← h1]; exact (List.getElem?_eq_some_iff.1 hi).1
      obtain ⟨f, e⟩ := h2 i hi2
      have := h3 i hi2
      rw [hi] at e
      cases e
      exact ⟨_, f, rfl, this⟩
    · obtain ⟨c, f, e, hc, _⟩ := wv3 j hj
      exact ⟨c, f, e, hc⟩
  obtain ⟨r1, r2⟩ := rows_of _ hm hl2
  have e3 := mkDisk_enc (applyW cs rv) [] 0 hl2 rfl (fun j hj => by omega)
  rw [← e3]
  exact left_fz rv fl _ h1 h2 h3 wv cs n w1 w2 (waA cs) (waV cs) (fun j hj => ⟨(w3 j hj).1, by obtain ⟨_, _, _, _, e⟩ := wv3 j hj; exact e⟩) w4 (fun j hj => by obtain ⟨c, f, e, hc, _⟩ := wv3 j hj; exact ⟨c, f, e, hc⟩) (fun i => rowC ((applyW cs rv).getD i .bad)) (fun i hi => by rw [← eA]; exact r1 i hi) r2
end Go.Proofs.YtafhcdagifopeaaGreatDoor
end
section
/- code: bytes of numbers. -/
set_option maxRecDepth 100000
namespace Go.Proofs.YtafhcdagifopeaaGreatDoor
open Go.AM Go.AM.BM
attribute [local irreducible] U W

def leB (n : Nat) : Nat → List UInt8
  | 0 => []
  | i + 1 => leB n i ++ [UInt8.ofNat (n / 256 ^ i)]
theorem leB_length (n : Nat) : ∀ i, (leB n i).length = i
  | 0 => rfl
  | i + 1 => by simp [leB, leB_length n i]
def putS (n : Nat) : Nat → V
  | 0 => .nilslice
  | i + 1 => .gslice 0 31 (ofBytes (leB n (i + 1))) (i + 1) 1
def putH : Nat → AM.Heap
  | 0 => [[]]
  | i + 1 => [[(31, .grow (i + 1))]]
def putV (n k : Nat) : V := if !(decide (0 < k) && decide (k ≤ 4)) || decide (256 ^ k ≤ n) then .tuple [.nilslice, .int .i64 2] else .tuple [.islice (ofBytes (leB n k)) k false, .int .i64 0]

theorem bytes_frzN (g : Get) (m : Nat) : ∀ l : List UInt8, frzL (frzN g (m + 1)) (ofBytes l) = some (ofBytes l)
  | [] => rfl
  | b :: l => by
    have := bytes_frzN g m l
    simp only [ofBytes, List.map_cons] at this ⊢
    exact frzL_cons rfl this
theorem put_cw (n k : Nat) (hn : n ≤ 281474976710656) (hk : k ≤ 4294967296) : CW Tryz.prog polD 88 [.int .i64 n, .int .i64 k] [] fun r H => ∃ v0, r = .ret v0 ∧ frzN (hget H) depth v0 = some (putV n k) ∧ frz (hget H) depth v0 = some (putV n k) := by
  refine cw_of Tryz.func88 rfl ?_
  obtain ⟨m, rfl, hm⟩ := (sized_fz k).op (by rfl) rfl
  have hm' : ∀ s H, _ := fun s H => hm 88 0 s H rfl
  have c0 : decide ((n : Int) < 0) = false := by simp
  have err : ∀ (T : List V), T.getD 4 .bad = .nilslice → T.getD 5 .bad = .int .i64 2 → putV n k = .tuple [.nilslice, .int .i64 2] → AM.End Tryz.prog Tryz.f88 0 (fun r H => ∃ v0, r = .ret v0 ∧ frzN (hget H) depth v0 = some (putV n k) ∧ frz (hget H) depth v0 = some (putV n k)) .ret T [[]] := by
    intro T h1 h2 h3
    refine End.ret (v := .tuple [.nilslice, .int .i64 2]) ?_ ⟨_, rfl, by rw [h3]; rfl, by rw [h3]; rfl⟩
    show (match resL Tryz.prog T [[]] [.tmp 4, .tmp 5] with | some [v] => some v | some vs => some (V.tuple vs) | none => none) = _
    simp only [resL, resOne, h1, h2]
  cases hs : (decide (0 < k) && decide (k ≤ 4)) with
  | false =>
    rw [hs] at hm'
    simp only [tok_int, walk, walkL, evOp, quietOp, farOp, nov, gd, rho, putT, wr, Nat.reduceAdd, Nat.reduceSub, Bool.false_eq_true, if_true, if_false, reduceIte, reduceCtorEq, walkM, Int.reduceBEq, Int.reduceBNe, Int.reduceLT, Int.reduceLE, decide_true, decide_false, eq_self, Bool.not_true, Bool.not_false, ↓ev_fa, ↓ev_field, ↓ev_load, ↓ev_store, stO_cells, List.all_cons, List.all_nil, Bool.and_self, Bool.and_true, Tryz.ntmps88, ta88, new, hget, hset, fget, fset, List.modify_zero_cons, List.modify_succ_cons, List.modify_cons, Nat.reduceLT, Nat.reduceEqDiff, Nat.lt_irrefl, Nat.not_lt_zero, Nat.lt_add_one, splice, zerosN, fillV, walkB, pureL, V.pure, Nat.reduceMul, Nat.reduceLeDiff, Nat.one_ne_zero, and_self, and_true, true_and, List.take_zero, List.drop_succ_cons, List.drop_zero, List.take_succ_cons, List.replicate_one, Bool.and_self, Bool.and_true, List.drop_nil, List.take_nil, Nat.le_refl, Nat.zero_add, Nat.zero_mul, Nat.one_mul, Nat.mul_one, hm']
    refine W.done (err _ rfl rfl ?_)
    simp [putV, hs]
  | true =>
    rw [hs] at hm'
    have hk4 : 0 < k ∧ k ≤ 4 := by simpa using hs
    have m8 : (IntKind.i64).wrap (8 * (k : Int)) = ((8 * k : Nat) : Int) := by rw [wrap_i64] <;> omega
    have sh : ∀ p q, binV Tryz.prog .shl 3 p q (.int .i64 1) (.int .i64 ((8 * k : Nat) : Int)) = some (.int .i64 ((256 ^ k : Nat) : Int)) := fun p q => by
      obtain ⟨h1, h2⟩ := hk4
      have : k = 1 ∨ k = 2 ∨ k = 3 ∨ k = 4 := by omega
      rcases this with rfl | rfl | rfl | rfl <;> rfl
    have cg : decide ((n : Int) ≥ ((256 ^ k : Nat) : Int)) = decide (256 ^ k ≤ n) := by simp only [ge_iff_le, Int.ofNat_le]
    simp only [tok_int, walk, walkL, evOp, quietOp, farOp, nov, gd, rho, putT, wr, Nat.reduceAdd, Nat.reduceSub, Bool.false_eq_true, if_true, if_false, reduceIte, reduceCtorEq, walkM, Int.reduceBEq, Int.reduceBNe, Int.reduceLT, Int.reduceLE, decide_true, decide_false, eq_self, Bool.not_true, Bool.not_false, ↓ev_fa, ↓ev_field, ↓ev_load, ↓ev_store, stO_cells, List.all_cons, List.all_nil, Bool.and_self, Bool.and_true, Tryz.ntmps88, ta88, new, hget, hset, fget, fset, List.modify_zero_cons, List.modify_succ_cons, List.modify_cons, Nat.reduceLT, Nat.reduceEqDiff, Nat.lt_irrefl, Nat.not_lt_zero, Nat.lt_add_one, splice, zerosN, fillV, walkB, pureL, V.pure, Nat.reduceMul, Nat.reduceLeDiff, Nat.one_ne_zero, and_self, and_true, true_and, List.take_zero, List.drop_succ_cons, List.drop_zero, List.take_succ_cons, List.replicate_one, Bool.and_self, Bool.and_true, List.drop_nil, List.take_nil, Nat.le_refl, Nat.zero_add, Nat.zero_mul, Nat.one_mul, Nat.mul_one, hm', c0, m8, sh, cg]
    refine W.ite (fun h => ?_) (fun h => ?_)
    · simp only [tok_int, walk, walkL, evOp, quietOp, farOp, nov, gd, rho, putT, wr, Nat.reduceAdd, Nat.reduceSub, Bool.false_eq_true, if_true, if_false, reduceIte, reduceCtorEq, walkM, Int.reduceBEq, Int.reduceBNe, Int.reduceLT, Int.reduceLE, decide_true, decide_false, eq_self, Bool.not_true, Bool.not_false, ↓ev_fa, ↓ev_field, ↓ev_load, ↓ev_store, stO_cells, List.all_cons, List.all_nil, Bool.and_self, Bool.and_true]
      refine W.done (err _ rfl rfl ?_)
      simp only [decide_eq_true_eq] at h
      simp [putV, hs, h]
    · have hv : putV n k = .tuple [.islice (ofBytes (leB n k)) k false, .int .i64 0] := by
        simp only [putV, hs, h]; rfl
      rw [hv]
      simp only [tok_int, walk, walkL, evOp, quietOp, farOp, nov, gd, rho, putT, wr, Nat.reduceAdd, Nat.reduceSub, Bool.false_eq_true, if_true, if_false, reduceIte, reduceCtorEq, walkM, Int.reduceBEq, Int.reduceBNe, Int.reduceLT, Int.reduceLE, decide_true, decide_false, eq_self, Bool.not_true, Bool.not_false, ↓ev_fa, ↓ev_field, ↓ev_load, ↓ev_store, stO_cells, List.all_cons, List.all_nil, Bool.and_self, Bool.and_true, ta88, new, hget, hset, fget, fset, List.modify_zero_cons, List.modify_succ_cons, List.modify_cons, Nat.reduceLT, Nat.reduceEqDiff, Nat.lt_irrefl, Nat.not_lt_zero, Nat.lt_add_one, splice, zerosN, fillV, walkB, pureL, V.pure, Nat.reduceMul, Nat.reduceLeDiff, Nat.one_ne_zero, and_self, and_true, true_and, List.take_zero, List.drop_succ_cons, List.drop_zero, List.take_succ_cons, List.replicate_one, Bool.and_self, Bool.and_true, List.drop_nil, List.take_nil, Nat.le_refl, Nat.zero_add, Nat.zero_mul, Nat.one_mul, Nat.mul_one]
      refine W.ul ?_
      refine W.loopS (kt := [0, 1, 6]) rfl (fun i : Nat => st88_4 (.int .i64 ((n / 256 ^ i : Nat) : Int)) (.int .i64 k) (putS n i)) putH (fun i => i ≤ k) (fun i => k - i) ?_ 0 (Nat.zero_le _) (by simp only [Nat.pow_zero, Nat.div_one]; rfl) rfl
      intro i hi
      simp only [st88_4]
      have len : ∀ g, lenV Tryz.prog g 26 (putS n i) = some (.int .i64 (i : Nat)) := fun g => by
        cases i with
        | zero => exact ln_nil Tryz.underlying26
        | succ i => exact len_g Tryz.underlying26 g
      by_cases h2 : i < k
      · have c1 : decide ((i : Int) < k) = true := by simp only [decide_eq_true_eq]; omega
        generalize hN : n / 256 ^ i = N
        have hNn : N ≤ n := by rw [← hN]; exact Nat.div_le_self _ _
        have cv : ∀ g, convertV Tryz.prog g 3 5 (.int .i64 N) = some (.val (.int .u8 ((UInt8.ofNat N).toNat : Nat)) none) := fun g => by
          simp only [convertV, Tryz.underlying3, Tryz.underlying5]
          have : (IntKind.u8).wrap (N : Int) = ((UInt8.ofNat N).toNat : Int) := by
            rw [IntKind.wrap_u8, UInt8.toNat_ofNat']; omega
          simp only [this]
        have q : ∀ x y, binV Tryz.prog .quo 3 x y (.int .i64 N) (.int .i64 256) = some (.int .i64 ((N / 256 : Nat) : Int)) := fun x y => by
          have e : (N : Int).tdiv 256 = ((N / 256 : Nat) : Int) := by
            rw [Int.tdiv_eq_ediv_of_nonneg (by omega)]; omega
          have w : (IntKind.i64).wrap ((N / 256 : Nat) : Int) = ((N / 256 : Nat) : Int) := by rw [wrap_i64] <;> omega
          show some (V.int .i64 ((IntKind.i64).wrap ((N : Int).tdiv 256))) = _
          rw [e, w]
        have ap : appendV Tryz.prog (polD.mt 88) 0 (hget (putH i)) (some 31) 26 26 (putS n i) (.islice [.int .u8 ((UInt8.ofNat N).toNat : Nat)] 1 true) = some (.val (putS n (i + 1)) (some (0, 31, .grow (i + 1)))) := by
          have mt : polD.mt 88 31 = false := rfl
          have e2 : ofBytes (leB n (i + 1)) = ofBytes (leB n i) ++ [.int .u8 ((UInt8.ofNat N).toNat : Nat)] := by rw [leB, ofBytes_append, hN]; rfl
          cases i with
          | zero =>
            rw [putS, putS, app_nil Tryz.underlying26 sz5 by8' zc5 rfl Tryz.underlying26 (m := 1) (cs := [.int .u8 ((UInt8.ofNat N).toNat : Nat)]) rfl (by omega) (by decide), grown_im mt rfl rfl, e2]
            rfl
          | succ i =>
            rw [putS, putS, app_more Tryz.underlying26 sz5 by8' zc5 rfl Tryz.underlying26 (cs := [.int .u8 ((UInt8.ofNat N).toNat : Nat)]) (m := 1) rfl (by omega) (roomy_of (by omega) (by omega)) rfl rfl rfl, e2]
        have hs2 : List.modify (putH i) 0 (fun fr => fset fr 31 (.grow (i + 1))) = putH (i + 1) := by cases i <;> rfl
        have mt : ∀ s, polD.mt 88 s = false := fun s => rfl
        generalize putS n i = S at *
        generalize putH i = K at *
        simp only [tok_int, walk, walkL, evOp, quietOp, farOp, nov, gd, rho, putT, wr, Nat.reduceAdd, Nat.reduceSub, Bool.false_eq_true, if_true, if_false, reduceIte, reduceCtorEq, walkM, Int.reduceBEq, Int.reduceBNe, Int.reduceLT, Int.reduceLE, decide_true, decide_false, eq_self, Bool.not_true, Bool.not_false, ↓ev_fa, ↓ev_field, ↓ev_load, ↓ev_store, stO_cells, List.all_cons, List.all_nil, Bool.and_self, Bool.and_true, ta88, new, hget, hset, fget, fset, List.modify_zero_cons, List.modify_succ_cons, List.modify_cons, Nat.reduceLT, Nat.reduceEqDiff, Nat.lt_irrefl, Nat.not_lt_zero, Nat.lt_add_one, splice, zerosN, fillV, walkB, pureL, V.pure, Nat.reduceMul, Nat.reduceLeDiff, Nat.one_ne_zero, and_self, and_true, true_and, List.take_zero, List.drop_succ_cons, List.drop_zero, List.take_succ_cons, List.replicate_one, Bool.and_self, Bool.and_true, List.drop_nil, List.take_nil, Nat.le_refl, Nat.zero_add, Nat.zero_mul, Nat.one_mul, Nat.mul_one, len, c1, cv, q, mt, bi_append, ap, hs2, Tryz.underlying26]
        refine W.done ⟨i + 1, ?_, rfl, h2, by omega⟩
        have : n / 256 ^ (i + 1) = N / 256 := by rw [Nat.pow_succ, ← Nat.div_div_eq_div_mul, hN]
        rw [this]; rfl
      · have hik : i = k := by omega
        subst hik
        have c1 : decide ((i : Int) < i) = false := by simp
        simp only [tok_int, walk, walkL, evOp, quietOp, farOp, nov, gd, rho, putT, wr, Nat.reduceAdd, Nat.reduceSub, Bool.false_eq_true, if_true, if_false, reduceIte, reduceCtorEq, walkM, Int.reduceBEq, Int.reduceBNe, Int.reduceLT, Int.reduceLE, decide_true, decide_false, eq_self, Bool.not_true, Bool.not_false, ↓ev_fa, ↓ev_field, ↓ev_load, ↓ev_store, stO_cells, List.all_cons, List.all_nil, Bool.and_self, Bool.and_true, ta88, new, hget, hset, fget, fset, List.modify_zero_cons, List.modify_succ_cons, List.modify_cons, Nat.reduceLT, Nat.reduceEqDiff, Nat.lt_irrefl, Nat.not_lt_zero, Nat.lt_add_one, splice, zerosN, fillV, walkB, pureL, V.pure, Nat.reduceMul, Nat.reduceLeDiff, Nat.one_ne_zero, and_self, and_true, true_and, List.take_zero, List.drop_succ_cons, List.drop_zero, List.take_succ_cons, List.replicate_one, Bool.and_self, Bool.and_true, List.drop_nil, List.take_nil, Nat.le_refl, Nat.zero_add, Nat.zero_mul, Nat.one_mul, Nat.mul_one, len, c1]
        refine W.done ?_
        simp only [tok_int, walk, walkL, evOp, quietOp, farOp, nov, gd, rho, putT, wr, Nat.reduceAdd, Nat.reduceSub, Bool.false_eq_true, if_true, if_false, reduceIte, reduceCtorEq, walkM, Int.reduceBEq, Int.reduceBNe, Int.reduceLT, Int.reduceLE, decide_true, decide_false, eq_self, Bool.not_true, Bool.not_false, ↓ev_fa, ↓ev_field, ↓ev_load, ↓ev_store, stO_cells, List.all_cons, List.all_nil, Bool.and_self, Bool.and_true, ta88, new, hget, hset, fget, fset, List.modify_zero_cons, List.modify_succ_cons, List.modify_cons, Nat.reduceLT, Nat.reduceEqDiff, Nat.lt_irrefl, Nat.not_lt_zero, Nat.lt_add_one, splice, zerosN, fillV, walkB, pureL, V.pure, Nat.reduceMul, Nat.reduceLeDiff, Nat.one_ne_zero, and_self, and_true, true_and, List.take_zero, List.drop_succ_cons, List.drop_zero, List.take_succ_cons, List.replicate_one, Bool.and_self, Bool.and_true, List.drop_nil, List.take_nil, Nat.le_refl, Nat.zero_add, Nat.zero_mul, Nat.one_mul, Nat.mul_one]
        obtain ⟨j, rfl⟩ : ∃ j, i = j + 1 := ⟨i - 1, by omega⟩
        refine W.done (End.ret (v := .tuple [.gslice 0 31 (ofBytes (leB n (j + 1))) (j + 1) 1, .int .i64 0]) rfl ⟨_, rfl, ?_, ?_⟩) <;> rw [popF_keep rfl]
        · have fl : frzL (frzN (hget (putH (j + 1))) 10) (ofBytes (leB n (j + 1))) = some (ofBytes (leB n (j + 1))) := bytes_frzN _ _ _
          have f1 : frzN (hget (putH (j + 1))) 11 (.gslice 0 31 (ofBytes (leB n (j + 1))) (j + 1) 1) = some (.islice (ofBytes (leB n (j + 1))) (j + 1) false) := by
            show (if j + 1 = j + 1 then (frzL (frzN (hget (putH (j + 1))) 10) (ofBytes (leB n (j + 1)))).map _ else none) = _
            rw [fl, if_pos rfl]; rfl
          show (frzL (frzN _ 11) [V.gslice 0 31 (ofBytes (leB n (j + 1))) (j + 1) 1, .int .i64 0]).map _ = _
          rw [frzL_cons f1 (frzL_cons (y := .int .i64 0) rfl rfl)]; rfl
        · have f1 := frz_gs (l := leB n (j + 1)) (f := 0) (s := 31) (n := j + 1) (e := 1) (hget (putH (j + 1))) 9
          show (frzL (frz _ 11) [V.gslice 0 31 (ofBytes (leB n (j + 1))) (j + 1) 1, .int .i64 0]).map _ = _
          rw [frzL_cons f1 (frzL_cons (y := .int .i64 0) rfl rfl)]; rfl
end Go.Proofs.YtafhcdagifopeaaGreatDoor
end
section
/- code.Get, code.Put by plain functions. -/
set_option maxRecDepth 100000
namespace Go.Proofs.YtafhcdagifopeaaGreatDoor
open Go.AM Go.AM.BM
attribute [local irreducible] U W

theorem slC_ok {x : V} {c : List V} {n : Nat} (h : slC x = some (c, n)) : IsSl 1 x c n ∧ n ≤ 1048576 := by
  cases x with
  | nilslice => cases h; exact ⟨IsSl.nil, by decide⟩
  | islice xs m f =>
    simp only [slC] at h
    split at h
    case isFalse => cases h
    rename_i hc
    cases h
    simp only [Bool.and_eq_true] at hc
    have e1 := Nat.eq_of_beq_eq_true hc.1
    have e2 := Nat.le_of_ble_eq_true hc.2
    exact ⟨IsSl.mk (by omega), e2⟩
  | _ => cases h
theorem numC_ok : ∀ {c : List V} {m : Nat}, numC c = some m → ∃ p : List UInt8, c = ofBytes p ∧ numL p = m
  | [], m, h => by cases h; exact ⟨[], rfl, rfl⟩
  | v :: r, m, h => by
    unfold numC at h
    split at h
    · rename_i e; cases e
    · rename_i b r' e
      cases e
      split at h
      case isFalse => cases h
      rename_i hb
      cases hr : numC r with
      | none => rw [hr] at h; cases h
      | some n =>
        rw [hr] at h; cases h
        obtain ⟨p, rfl, rfl⟩ := numC_ok hr
        have hb' : b < 256 := by
          simp only [Nat.blt] at hb
          have := Nat.le_of_ble_eq_true hb
          omega
        have e : (UInt8.ofNat b).toNat = b := by simp; omega
        refine ⟨UInt8.ofNat b :: p, ?_, ?_⟩
        · show V.int .u8 (Int.ofNat b) :: ofBytes p = V.int .u8 ((UInt8.ofNat b).toNat : Int) :: ofBytes p
          rw [e]; rfl
        · simp only [numL, e]; rfl
    · cases h
theorem frz_inv {g : Get} {n : Nat} {v : V} {k : IntKind} {m : Int} (h : frz g n v = some (.int k m)) : v = .int k m := by
  cases n with
  | zero => cases h
  | succ n =>
    cases v with
    | int k' m' => simpa [frz] using h
    | mslice f s o len cap esz =>
      simp only [frz] at h
      split at h
      · split at h
        · simp only [Option.map_eq_some_iff] at h; obtain ⟨_, _, h⟩ := h; cases h
        · cases h
      · cases h
    | ptr f s o =>
      simp only [frz] at h
      split at h
      · simp only [Option.map_eq_some_iff] at h; obtain ⟨_, _, h⟩ := h; cases h
      · cases h
    | func fn a b =>
      simp only [frz] at h
      split at h <;> cases h
    | _ => first | (simp only [frz, Option.map_eq_some_iff] at h; obtain ⟨_, _, h⟩ := h; cases h) | (simp [frz] at h)
theorem frzL_inv {f : V → Option V} {x : V} {l m : List V} (h : frzL f (x :: l) = some m) : ∃ y ys, f x = some y ∧ frzL f l = some ys ∧ m = y :: ys := by
  simp only [frzL] at h
  cases hx : f x with
  | none => rw [hx] at h; cases h
  | some y =>
    cases hl : frzL f l with
    | none => rw [hx, hl] at h; cases h
    | some ys => rw [hx, hl] at h; cases h; exact ⟨y, ys, rfl, rfl, rfl⟩
theorem frz_tup2 {g : Get} {n : Nat} {v : V} {k l : IntKind} {a b : Int} (h : frz g n v = some (.tuple [.int k a, .int l b])) : v = .tuple [.int k a, .int l b] := by
  cases n with
  | zero => cases h
  | succ n =>
    cases v with
    | tuple cs =>
      simp only [frz, Option.map_eq_some_iff] at h
      obtain ⟨ds, h, e⟩ := h
      cases e
      cases cs with
      | nil => cases h
      | cons x cs =>
        obtain ⟨y, ys, h1, h2, e⟩ := frzL_inv h
        cases e
        cases cs with
        | nil => cases h2
        | cons z cs =>
          obtain ⟨y', ys', h3, h4, e⟩ := frzL_inv h2
          cases e
          cases cs with
          | nil => rw [frz_inv h1, frz_inv h3]
          | cons w cs =>
            obtain ⟨_, _, _, _, e⟩ := frzL_inv h4
            cases e
    | mslice f s o len cap esz =>
      simp only [frz] at h
      split at h
      · split at h
        · simp only [Option.map_eq_some_iff] at h; obtain ⟨_, _, h⟩ := h; cases h
        · cases h
      · cases h
    | ptr f s o =>
      simp only [frz] at h
      split at h
      · simp only [Option.map_eq_some_iff] at h; obtain ⟨_, _, h⟩ := h; cases h
      · cases h
    | func fn a b =>
      simp only [frz] at h
      split at h <;> cases h
    | _ => first | (simp only [frz, Option.map_eq_some_iff] at h; obtain ⟨_, _, h⟩ := h; cases h) | (simp [frz] at h)
theorem fzN_of_fz {f : FuncId} {args : List V} {k l : IntKind} {a b : Int} (h : Fz Tryz.prog polD f args fun r => r = .tuple [.int k a, .int l b]) : FzN Tryz.prog polD f args (.tuple [.int k a, .int l b]) := by
  obtain ⟨v, H', v', h1, h2, rfl⟩ := h
  obtain rfl := frz_tup2 h2
  exact ⟨_, _, h1, rfl⟩
theorem beqF {a b : Nat} (h : Nat.beq a b = false) : a ≠ b := by
  intro e; subst e; simp at h
theorem bltT {a b : Nat} (h : Nat.blt a b = true) : a < b := by
  simp only [Nat.blt] at h
  have := Nat.le_of_ble_eq_true h; omega
theorem bltF {a b : Nat} (h : Nat.blt a b = false) : b ≤ a := by
  rcases Nat.lt_or_ge a b with h2 | h2
  · have := Nat.ble_eq_true_of_le (show a + 1 ≤ b from h2)
    simp only [Nat.blt, this] at h; cases h
  · exact h2
theorem kGet_fz (ys : List V) (v : V) (h : kGet ys = some v) : FzN Tryz.prog polD 223 ys v := by
  unfold kGet at h
  split at h
  case h_2 => cases h
  rename_i x a k
  split at h
  case h_2 => cases h
  rename_i c n hc
  obtain ⟨hs, hn⟩ := slC_ok hc
  split at h
  case isFalse => cases h
  rename_i hak
  simp only [Bool.and_eq_true] at hak
  have ha := Nat.le_of_ble_eq_true hak.1
  have hk := Nat.le_of_ble_eq_true hak.2
  split at h
  · rename_i h1
    cases h
    have e : getS n a k [] = (0, 2) := by
      simp only [Bool.or_eq_true] at h1
      rcases h1 with h1 | h1 | h1
      · have := Nat.eq_of_beq_eq_true h1
        simp [getS, this]
      · have := bltT h1
        have : ¬ k ≤ 4 := by omega
        simp [getS, this]
      · have := bltT h1
        simp [getS, this]
    have := fzN_of_fz (k := .i64) (l := .i64) (a := ((getS n a k []).1 : Nat)) (b := ((getS n a k []).2 : Nat)) (get_sl x c n hs (by omega) a k (by omega) (by omega) [] (fun h2 h3 => by
      have : k = 0 := by
        simp only [Bool.or_eq_true] at h1
        rcases h1 with h1 | h1 | h1
        · exact Nat.eq_of_beq_eq_true h1
        · have := bltT h1; omega
        · have := bltT h1; omega
      subst this; rw [List.take_zero]; rfl))
    rw [e] at this
    exact this
  · rename_i h1
    simp only [Bool.or_eq_true, not_or, Bool.not_eq_true] at h1
    obtain ⟨h1, h2, h3⟩ := h1
    have k0 := beqF h1
    have k4 := bltF h2
    have an := bltF h3
    have k1 : 0 < k := by omega
    split at h
    · rename_i h4
      cases h
      have lt := bltT h4
      have lt' : n < a + k := lt
      have e : getS n a k [] = (0, 8) := by
        simp [getS, k1, k4, lt']; omega
      have := fzN_of_fz (k := .i64) (l := .i64) (a := ((getS n a k []).1 : Nat)) (b := ((getS n a k []).2 : Nat)) (get_sl x c n hs (by omega) a k (by omega) (by omega) [] (fun h2 h3 => by omega))
      rw [e] at this
      exact this
    · rename_i h4
      have h4' : ¬ n < a + k := by
        intro h5
        have : Nat.blt n (Nat.add a k) = true := Nat.ble_eq_true_of_le h5
        exact h4 this
      split at h
      case h_2 => cases h
      rename_i m hm
      cases h
      obtain ⟨p, hp, rfl⟩ := numC_ok hm
      have e : getS n a k p = (numL p, 0) := by
        have a1 : ¬ n < a := by omega
        simp [getS, k1, k4, a1, h4']
      have := fzN_of_fz (k := .i64) (l := .i64) (a := ((getS n a k p).1 : Nat)) (b := ((getS n a k p).2 : Nat)) (get_sl x c n hs (by omega) a k (by omega) (by omega) p (fun _ _ => hp))
      rw [e] at this
      exact this
theorem leB_cons (n : Nat) : ∀ i, leB n (i + 1) = UInt8.ofNat n :: leB (n / 256) i
  | 0 => by simp [leB]
  | i + 1 => by
    rw [leB, leB_cons n i, leB]
    have : n / 256 ^ (i + 1) = n / 256 / 256 ^ i := by rw [Nat.pow_succ', Nat.div_div_eq_div_mul]
    rw [this]; rfl
theorem bytesN_leB : ∀ (k n : Nat), bytesN n k = ofBytes (leB n k)
  | 0, n => rfl
  | k + 1, n => by
    rw [leB_cons, bytesN, bytesN_leB k (Nat.div n 256)]
    have e : (UInt8.ofNat n).toNat = n % 256 := by rw [UInt8.toNat_ofNat']
    show V.int .u8 (Int.ofNat (n % 256)) :: ofBytes (leB (n / 256) k) = V.int .u8 ((UInt8.ofNat n).toNat : Int) :: ofBytes (leB (n / 256) k)
    rw [e]; rfl
end Go.Proofs.YtafhcdagifopeaaGreatDoor
end
section
/- mix.Key. -/
set_option maxRecDepth 100000
namespace Go.Proofs.YtafhcdagifopeaaGreatDoor
open Go.AM Go.AM.BM
attribute [local irreducible] U W

theorem put_fz (n : Nat) (hn : n < 4294967296) : Fz Tryz.prog polD 88 [.int .i64 n, .int .i64 4] fun r => r = .tuple [.islice (ofBytes (leB n 4)) 4 false, .int .i64 0] := by
  obtain ⟨r, H, h1, v0, rfl, _, h2⟩ := put_cw n 4 (by omega) (by decide)
  have e : putV n 4 = .tuple [.islice (ofBytes (leB n 4)) 4 false, .int .i64 0] := by
    have : ¬ 256 ^ 4 ≤ n := by omega
    simp [putV, this]
  exact ⟨v0, H, _, h1, h2, e⟩
theorem fourB_ok {l : List UInt8} (hl : l.length ≤ 1048576) : wok (fourB l) := by
  have ok := foldP_ok (l := padB l (padN l.length)) (j := (l.length + 1 + padN l.length) / 8) (by rw [padB_length]; omega)
  exact oftenW_ok 8 ⟨ok.1, xor_lt ok.2.1 (by omega), ok.2.2.1, ok.2.2.2⟩

def wi (x : W4) : Nat → Nat
  | 0 => x.a
  | 1 => x.b
  | 2 => x.c
  | _ => x.d
theorem wi_lt {x : W4} (h : wok x) : ∀ i, wi x i < 4294967296
  | 0 => h.1
  | 1 => h.2.1
  | 2 => h.2.2.1
  | _ + 3 => h.2.2.2
def keyB (x : W4) : Nat → List UInt8
  | 0 => []
  | i + 1 => keyB x i ++ leB (wi x i) 4
def keyS (x : W4) : Nat → V
  | 0 => .nilslice
  | i + 1 => .gslice 0 21 (ofBytes (keyB x (i + 1))) (4 * (i + 1)) 1
def keyH : Nat → AM.Heap
  | 0 => [[]]
  | i + 1 => [[(21, .grow (4 * (i + 1)))]]
theorem frzN_gs {l : List UInt8} {f s n e : Nat} {g : Get} (h : g f s = some (.grow n)) (m : Nat) : frzN g (m + 2) (.gslice f s (ofBytes l) n e) = some (.islice (ofBytes l) n false) := by
  have fl : frzL (frzN g (m + 1)) (ofBytes l) = some (ofBytes l) := bytes_frzN _ _ _
  have e1 : frzN g (m + 2) (.gslice f s (ofBytes l) n e) = (match g f s with
      | some (.grow k) => if k = n then (frzL (frzN g (m + 1)) (ofBytes l)).map fun cs => .islice cs n false else none
      | _ => none) := rfl
  rw [e1, h]
  simp only [if_true, fl, Option.map_some]
theorem key_cw (v : V) (l : List UInt8) (hv : IsBytes v l) (hl : l.length ≤ 1048576) : CW Tryz.prog polD 136 [v] [] fun r H => ∃ v0, r = .ret v0 ∧ frzN (hget H) depth v0 = some (.islice (ofBytes (keyB (fourB l) 4)) 16 false) := by
  refine cw_of Tryz.func136 rfl ?_
  obtain ⟨m, rfl, hm⟩ := (four_fz v l hv hl).op (by rfl) (frzL_cons (hv.frz _) rfl)
  have hm' : ∀ s H, _ := fun s H => hm 136 0 s H rfl
  have ok := fourB_ok hl
  generalize fourB l = z at *
  simp only [tok_int, walk, walkL, evOp, quietOp, farOp, nov, gd, rho, putT, wr, Nat.reduceAdd, Nat.reduceSub, Bool.false_eq_true, if_true, if_false, reduceIte, reduceCtorEq, walkM, Int.reduceBEq, Int.reduceBNe, Int.reduceLT, Int.reduceLE, decide_true, decide_false, eq_self, Bool.not_true, Bool.not_false, ↓ev_fa, ↓ev_field, ↓ev_load, ↓ev_store, stO_cells, List.all_cons, List.all_nil, Bool.and_self, Bool.and_true, Tryz.ntmps136, ta136, new, hget, hset, fget, fset, List.modify_zero_cons, List.modify_succ_cons, List.modify_cons, Nat.reduceLT, Nat.reduceEqDiff, Nat.lt_irrefl, Nat.not_lt_zero, Nat.lt_add_one, splice, zerosN, fillV, walkB, pureL, V.pure, Nat.reduceMul, Nat.reduceLeDiff, Nat.one_ne_zero, and_self, and_true, true_and, List.take_zero, List.drop_succ_cons, List.drop_zero, List.take_succ_cons, List.replicate_one, Bool.and_self, Bool.and_true, List.drop_nil, List.take_nil, Nat.le_refl, Nat.zero_add, Nat.zero_mul, Nat.one_mul, Nat.mul_one, hm']
  refine W.ul ?_
  refine W.loopS (kt := [3, 9, 10]) rfl (fun i : Nat => st136_3 (keyS z i) (.agg (wc z)) (.int .i64 i)) keyH (fun i => i ≤ 4) (fun i => 4 - i) ?_ 0 (Nat.zero_le _) rfl rfl
  intro i hi
  simp only [st136_3]
  by_cases h : i < 4
  · have c1 : decide ((i : Int) < 4) = true := by simp; omega
    have ix : indexV Tryz.prog 247 (.agg (wc z)) (.int .i64 i) = some (.int .u32 (wi z i)) := by
      have : i = 0 ∨ i = 1 ∨ i = 2 ∨ i = 3 := by omega
      rcases this with rfl | rfl | rfl | rfl <;> (simp only [indexV, Tryz.underlying247, sz27]; rfl)
    have cv : ∀ g, convertV Tryz.prog g 27 3 (.int .u32 (wi z i)) = some (.val (.int .i64 (wi z i)) none) := fun g => by
      simp only [convertV, Tryz.underlying3, Tryz.underlying27]
      have := wi_lt ok i
      have : (IntKind.i64).wrap (wi z i : Int) = (wi z i : Int) := by rw [wrap_i64] <;> omega
      simp only [this]
    obtain ⟨m2, rfl, hm2⟩ := (put_fz (wi z i) (wi_lt ok i)).op (by rfl) rfl
    have hm2' : ∀ s H, _ := fun s H => hm2 136 0 s H rfl
    have w1 : (IntKind.i64).wrap ((i : Int) + 1) = ((i + 1 : Nat) : Int) := by rw [wrap_i64] <;> omega
    have mt : ∀ s, polD.mt 136 s = false := fun s => rfl
    have ap : appendV Tryz.prog (polD.mt 136) 0 (hget (keyH i)) (some 21) 26 26 (keyS z i) (.islice (ofBytes (leB (wi z i) 4)) 4 false) = some (.val (keyS z (i + 1)) (some (0, 21, .grow (4 * (i + 1))))) := by
      have e2 : ofBytes (keyB z (i + 1)) = ofBytes (keyB z i) ++ ofBytes (leB (wi z i) 4) := by rw [keyB, ofBytes_append]
      have sc : ∀ g, sliceCells g 1 (.islice (ofBytes (leB (wi z i) 4)) 4 false) = some (ofBytes (leB (wi z i) 4), 4) := fun g => by
        simp [sliceCells, ofBytes_length, leB_length]
      cases i with
      | zero =>
        rw [keyS, keyS, app_nil Tryz.underlying26 sz5 by8' zc5 rfl Tryz.underlying26 (sc _) (by omega) (by decide), grown_im (mt _) (pureL_ofBytes _) rfl, e2]
        rfl
      | succ i =>
        rw [keyS, keyS, app_more Tryz.underlying26 sz5 by8' zc5 rfl Tryz.underlying26 (sc _) (by omega) (roomy_of (by omega) (by omega)) (pureL_ofBytes _) (scalar_ofBytes _) rfl, e2, show 4 * (i + 1) + 4 = 4 * (i + 1 + 1) by omega]
    have hs2 : List.modify (keyH i) 0 (fun fr => fset fr 21 (.grow (4 * (i + 1)))) = keyH (i + 1) := by cases i <;> rfl
    generalize keyS z i = S at *
    generalize keyH i = K at *
    simp only [tok_int, walk, walkL, evOp, quietOp, farOp, nov, gd, rho, putT, wr, Nat.reduceAdd, Nat.reduceSub, Bool.false_eq_true, if_true, if_false, reduceIte, reduceCtorEq, walkM, Int.reduceBEq, Int.reduceBNe, Int.reduceLT, Int.reduceLE, decide_true, decide_false, eq_self, Bool.not_true, Bool.not_false, ↓ev_fa, ↓ev_field, ↓ev_load, ↓ev_store, stO_cells, List.all_cons, List.all_nil, Bool.and_self, Bool.and_true, ta136, new, hget, hset, fget, fset, List.modify_zero_cons, List.modify_succ_cons, List.modify_cons, Nat.reduceLT, Nat.reduceEqDiff, Nat.lt_irrefl, Nat.not_lt_zero, Nat.lt_add_one, splice, zerosN, fillV, walkB, pureL, V.pure, Nat.reduceMul, Nat.reduceLeDiff, Nat.one_ne_zero, and_self, and_true, true_and, List.take_zero, List.drop_succ_cons, List.drop_zero, List.take_succ_cons, List.replicate_one, Bool.and_self, Bool.and_true, List.drop_nil, List.take_nil, Nat.le_refl, Nat.zero_add, Nat.zero_mul, Nat.one_mul, Nat.mul_one, c1, ix, cv, hm2', mt, bi_append, ap, hs2, w1, Tryz.underlying26]
    exact W.done ⟨i + 1, rfl, rfl, h, by omega⟩
  · have hi4 : i = 4 := by omega
    subst hi4
    have c1 : decide (((4 : Nat) : Int) < 4) = false := rfl
    simp only [tok_int, walk, walkL, evOp, quietOp, farOp, nov, gd, rho, putT, wr, Nat.reduceAdd, Nat.reduceSub, Bool.false_eq_true, if_true, if_false, reduceIte, reduceCtorEq, walkM, Int.reduceBEq, Int.reduceBNe, Int.reduceLT, Int.reduceLE, decide_true, decide_false, eq_self, Bool.not_true, Bool.not_false, ↓ev_fa, ↓ev_field, ↓ev_load, ↓ev_store, stO_cells, List.all_cons, List.all_nil, Bool.and_self, Bool.and_true, ta136, new, hget, hset, fget, fset, List.modify_zero_cons, List.modify_succ_cons, List.modify_cons, Nat.reduceLT, Nat.reduceEqDiff, Nat.lt_irrefl, Nat.not_lt_zero, Nat.lt_add_one, splice, zerosN, fillV, walkB, pureL, V.pure, Nat.reduceMul, Nat.reduceLeDiff, Nat.one_ne_zero, and_self, and_true, true_and, List.take_zero, List.drop_succ_cons, List.drop_zero, List.take_succ_cons, List.replicate_one, Bool.and_self, Bool.and_true, List.drop_nil, List.take_nil, Nat.le_refl, Nat.zero_add, Nat.zero_mul, Nat.one_mul, Nat.mul_one, c1]
    refine W.done ?_
    simp only [tok_int, walk, walkL, evOp, quietOp, farOp, nov, gd, rho, putT, wr, Nat.reduceAdd, Nat.reduceSub, Bool.false_eq_true, if_true, if_false, reduceIte, reduceCtorEq, walkM, Int.reduceBEq, Int.reduceBNe, Int.reduceLT, Int.reduceLE, decide_true, decide_false, eq_self, Bool.not_true, Bool.not_false, ↓ev_fa, ↓ev_field, ↓ev_load, ↓ev_store, stO_cells, List.all_cons, List.all_nil, Bool.and_self, Bool.and_true, ta136, new, hget, hset, fget, fset, List.modify_zero_cons, List.modify_succ_cons, List.modify_cons, Nat.reduceLT, Nat.reduceEqDiff, Nat.lt_irrefl, Nat.not_lt_zero, Nat.lt_add_one, splice, zerosN, fillV, walkB, pureL, V.pure, Nat.reduceMul, Nat.reduceLeDiff, Nat.one_ne_zero, and_self, and_true, true_and, List.take_zero, List.drop_succ_cons, List.drop_zero, List.take_succ_cons, List.replicate_one, Bool.and_self, Bool.and_true, List.drop_nil, List.take_nil, Nat.le_refl, Nat.zero_add, Nat.zero_mul, Nat.one_mul, Nat.mul_one]
    refine W.done (End.ret (v := keyS z 4) rfl ⟨_, rfl, ?_⟩)
    rw [popF_keep rfl]
    exact frzN_gs rfl 10
theorem kKey_fz (ys : List V) (v : V) (h : kKey ys = some v) : FzN Tryz.prog polD 136 ys v := by
  unfold kKey at h
  split at h
  case h_2 => cases h
  rename_i x
  split at h
  case h_2 => cases h
  rename_i c hc
  cases h
  obtain ⟨l, rfl, hb, hl⟩ := bytesC_ok hc
  obtain ⟨r, H, e1, v0, rfl, e2⟩ := key_cw x l hb hl
  have e : keyC (fourW (ofBytes l)) = ofBytes (keyB (fourB l) 4) := by
    rw [fourW_B]
    simp only [keyC, keyB, bytesN_leB, ofBytes_append, List.append_assoc, wi]
    rfl
  rw [e]
  exact ⟨_, _, e1, e2⟩
end Go.Proofs.YtafhcdagifopeaaGreatDoor
end
