/- This file holds in one the texts DQ, DR, DX; each says at its head what it proves. -/
import Derived.Test.YtjakoidjbcnhbaaGreatDoorT34
import Derived.Test.YtjakoidjbcnhbaaGreatDoorT36
import Derived.Test.YtjakoidjbcnhbaaGreatDoorT42
import Derived.Test.YtjakoidjbcnhbaaGreatDoorT46
import Derived.Test.YtjakoidjbcnhbaaGreatDoorT47
set_option linter.unusedSimpArgs false
set_option linter.unusedVariables false
section
/- code.Get, code.Put by plain functions. -/
set_option maxRecDepth 100000
namespace Go.Proofs.YtjakoidjbcnhbaaGreatDoor
open Go.AM Go.AM.BM
attribute [local irreducible] U W

theorem slC_ok {x : V} {c : List V} {n : Nat} (h : slC x = some (c, n)) : IsSl 1 x c n ∧ n ≤ 1048576 := by
  cases x with
  | nilslice => cases h; exact ⟨IsSl.nil, by decide⟩
  | islice xs m f =>
    simp only [slC] at h
    split at h
    case isFalse => cases h
    rename_i hc
    cases h
    simp only [Bool.and_eq_true] at hc
    have e1 := Nat.eq_of_beq_eq_true hc.1
    have e2 := Nat.le_of_ble_eq_true hc.2
    exact ⟨IsSl.mk (by omega), e2⟩
  | _ => cases h
theorem numC_ok : ∀ {c : List V} {m : Nat}, numC c = some m → ∃ p : List UInt8, c = ofBytes p ∧ numL p = m
  | [], m, h => by cases h; exact ⟨[], rfl, rfl⟩
  | v :: r, m, h => by
    unfold numC at h
    split at h
    · rename_i e; cases e
    · rename_i b r' e
      cases e
      split at h
      case isFalse => cases h
      rename_i hb
      cases hr : numC r with
      | none => rw [hr] at h; cases h
      | some n =>
        rw [hr] at h; cases h
        obtain ⟨p, rfl, rfl⟩ := numC_ok hr
        have hb' : b < 256 := by
          simp only [Nat.blt] at hb
          have := Nat.le_of_ble_eq_true hb
          omega
        have e : (UInt8.ofNat b).toNat = b := by simp; omega
        refine ⟨UInt8.ofNat b :: p, ?_, ?_⟩
        · show V.int .u8 (Int.ofNat b) :: ofBytes p = V.int .u8 ((UInt8.ofNat b).toNat : Int) :: ofBytes p
          rw [e]; rfl
        · simp only [numL, e]; rfl
    · cases h
theorem frz_inv {g : Get} {n : Nat} {v : V} {k : IntKind} {m : Int} (h : frz g n v = some (.int k m)) : v = .int k m := by
  cases n with
  | zero => cases h
  | succ n =>
    cases v with
    | int k' m' => simpa [frz] using h
    | mslice f s o len cap esz =>
      simp only [frz] at h
      split at h
      · split at h
        · simp only [Option.map_eq_some_iff] at h; obtain ⟨_, _, h⟩ := h; cases h
        · cases h
      · cases h
    | ptr f s o =>
      simp only [frz] at h
      split at h
      · simp only [Option.map_eq_some_iff] at h; obtain ⟨_, _, h⟩ := h; cases h
      · cases h
    | func fn a b =>
      simp only [frz] at h
      split at h <;> cases h
    | _ => first | (simp only [frz, Option.map_eq_some_iff] at h; obtain ⟨_, _, h⟩ := h; cases h) | (simp [frz] at h)
theorem frzL_inv {f : V → Option V} {x : V} {l m : List V} (h : frzL f (x :: l) = some m) : ∃ y ys, f x = some y ∧ frzL f l = some ys ∧ m = y :: ys := by
  simp only [frzL] at h
  cases hx : f x with
  | none => rw [hx] at h; cases h
  | some y =>
    cases hl : frzL f l with
    | none => rw [hx, hl] at h; cases h
    | some ys => rw [hx, hl] at h; cases h; exact ⟨y, ys, rfl, rfl, rfl⟩
theorem frz_tup2 {g : Get} {n : Nat} {v : V} {k l : IntKind} {a b : Int} (h : frz g n v = some (.tuple [.int k a, .int l b])) : v = .tuple [.int k a, .int l b] := by
  cases n with
  | zero => cases h
  | succ n =>
    cases v with
    | tuple cs =>
      simp only [frz, Option.map_eq_some_iff] at h
      obtain ⟨ds, h, e⟩ := h
      cases e
      cases cs with
      | nil => cases h
      | cons x cs =>
        obtain ⟨y, ys, h1, h2, e⟩ := frzL_inv h
        cases e
        cases cs with
        | nil => cases h2
        | cons z cs =>
          obtain ⟨y', ys', h3, h4, e⟩ := frzL_inv h2
          cases e
          cases cs with
          | nil => rw [frz_inv h1, frz_inv h3]
          | cons w cs =>
            obtain ⟨_, _, _, _, e⟩ := frzL_inv h4
            cases e
    | mslice f s o len cap esz =>
      simp only [frz] at h
      split at h
      · split at h
        · simp only [Option.map_eq_some_iff] at h; obtain ⟨_, _, h⟩ := h; cases h
        · cases h
      · cases h
    | ptr f s o =>
      simp only [frz] at h
      split at h
      · simp only [Option.map_eq_some_iff] at h; obtain ⟨_, _, h⟩ := h; cases h
      · cases h
    | func fn a b =>
      simp only [frz] at h
      split at h <;> cases h
    | _ => first | (simp only [frz, Option.map_eq_some_iff] at h; obtain ⟨_, _, h⟩ := h; cases h) | (simp [frz] at h)
theorem fzN_of_fz {f : FuncId} {args : List V} {k l : IntKind} {a b : Int} (h : Fz Tryz.prog polD f args fun r => r = .tuple [.int k a, .int l b]) : FzN Tryz.prog polD f args (.tuple [.int k a, .int l b]) := by
  obtain ⟨v, H', v', h1, h2, rfl⟩ := h
  obtain rfl := frz_tup2 h2
  exact ⟨_, _, h1, rfl⟩
theorem beqF {a b : Nat} (h : Nat.beq a b = false) : a ≠ b := by
  intro e; subst e; simp at h
theorem bltT {a b : Nat} (h : Nat.blt a b = true) : a < b := by
  simp only [Nat.blt] at h
  have := Nat.le_of_ble_eq_true h; omega
theorem bltF {a b : Nat} (h : Nat.blt a b = false) : b ≤ a := by
  rcases Nat.lt_or_ge a b with h2 | h2
  · have := Nat.ble_eq_true_of_le (show a + 1 ≤ b from h2)
    simp only [Nat.blt, this] at h; cases h
  · exact h2
theorem bleF {a b : Nat} (h : Nat.ble a b = false) : b < a := by
  rcases Nat.lt_or_ge b a with h2 | h2
  · exact h2
  · rw [Nat.ble_eq_true_of_le h2] at h; cases h
theorem kGet_fz (ys : List V) (v : V) (h : kGet ys = some v) : FzN Tryz.prog polD 131 ys v := by
  unfold kGet at h
  split at h
  case h_2 => cases h
  rename_i x a k
  split at h
  case h_2 => cases h
  rename_i c n hc
  obtain ⟨hs, hn⟩ := slC_ok hc
  split at h
  case isFalse => cases h
  rename_i hak
  simp only [Bool.and_eq_true] at hak
  have ha := Nat.le_of_ble_eq_true hak.1
  have hk := Nat.le_of_ble_eq_true hak.2
  split at h
  · rename_i h1
    cases h
    have e : getS n a k [] = (0, 2) := by
      simp only [Bool.or_eq_true] at h1
      rcases h1 with h1 | h1 | h1
      · have := Nat.eq_of_beq_eq_true h1
        simp [getS, this]
      · have := bltT h1
        have : ¬ k ≤ 4 := by omega
        simp [getS, this]
      · have := bltT h1
        simp [getS, this]
    have := fzN_of_fz (k := .i64) (l := .i64) (a := ((getS n a k []).1 : Nat)) (b := ((getS n a k []).2 : Nat)) (get_sl x c n hs (by omega) a k (by omega) (by omega) [] (fun h2 h3 => by
      have : k = 0 := by
        simp only [Bool.or_eq_true] at h1
        rcases h1 with h1 | h1 | h1
        · exact Nat.eq_of_beq_eq_true h1
        · have := bltT h1; omega
        · have := bltT h1; omega
      subst this; rw [List.take_zero]; rfl))
    rw [e] at this
    exact this
  · rename_i h1
    simp only [Bool.or_eq_true, not_or, Bool.not_eq_true] at h1
    obtain ⟨h1, h2, h3⟩ := h1
    have k0 := beqF h1
    have k4 := bltF h2
    have an := bltF h3
    have k1 : 0 < k := by omega
    split at h
    · rename_i h4
      cases h
      have lt := bltT h4
      have lt' : n < a + k := lt
      have e : getS n a k [] = (0, 8) := by
        simp [getS, k1, k4, lt']; omega
      have := fzN_of_fz (k := .i64) (l := .i64) (a := ((getS n a k []).1 : Nat)) (b := ((getS n a k []).2 : Nat)) (get_sl x c n hs (by omega) a k (by omega) (by omega) [] (fun h2 h3 => by omega))
      rw [e] at this
      exact this
    · rename_i h4
      have h4' : ¬ n < a + k := by
        intro h5
        have : Nat.blt n (Nat.add a k) = true := Nat.ble_eq_true_of_le h5
        exact h4 this
      split at h
      case h_2 => cases h
      rename_i m hm
      cases h
      obtain ⟨p, hp, rfl⟩ := numC_ok hm
      have e : getS n a k p = (numL p, 0) := by
        have a1 : ¬ n < a := by omega
        simp [getS, k1, k4, a1, h4']
      have := fzN_of_fz (k := .i64) (l := .i64) (a := ((getS n a k p).1 : Nat)) (b := ((getS n a k p).2 : Nat)) (get_sl x c n hs (by omega) a k (by omega) (by omega) p (fun _ _ => hp))
      rw [e] at this
      exact this
theorem leB_cons (n : Nat) : ∀ i, leB n (i + 1) = UInt8.ofNat n :: leB (n / 256) i
  | 0 => by simp [leB]
  | i + 1 => by
    rw [leB, leB_cons n i, leB]
    have : n / 256 ^ (i + 1) = n / 256 / 256 ^ i := by rw [Nat.pow_succ', Nat.div_div_eq_div_mul]
    rw [this]; rfl
theorem bytesN_leB : ∀ (k n : Nat), bytesN n k = ofBytes (leB n k)
  | 0, n => rfl
  | k + 1, n => by
    rw [leB_cons, bytesN, bytesN_leB k (Nat.div n 256)]
    have e : (UInt8.ofNat n).toNat = n % 256 := by rw [UInt8.toNat_ofNat']
    show V.int .u8 (Int.ofNat (n % 256)) :: ofBytes (leB (n / 256) k) = V.int .u8 ((UInt8.ofNat n).toNat : Int) :: ofBytes (leB (n / 256) k)
    rw [e]; rfl
theorem kPut_fz (ys : List V) (v : V) (h : kPut ys = some v) : FzN Tryz.prog polD 159 ys v := by
  unfold kPut at h
  split at h
  case h_2 => cases h
  rename_i n k
  split at h
  case isFalse => cases h
  rename_i hnk
  simp only [Bool.and_eq_true] at hnk
  have hn := Nat.le_of_ble_eq_true hnk.1
  have hk := Nat.le_of_ble_eq_true hnk.2
  obtain ⟨r, H, h1, v0, rfl, h2, _⟩ := put_cw n k hn (by omega)
  refine ⟨v0, H, h1, ?_⟩
  rw [h2]
  split at h
  · rename_i h3
    cases h
    simp only [Bool.or_eq_true] at h3
    have : (!(decide (0 < k) && decide (k ≤ 4)) || decide (256 ^ k ≤ n)) = true := by
      rcases h3 with h3 | h3 | h3
      · have := Nat.eq_of_beq_eq_true h3
        simp [this]
      · have := bltT h3
        have : ¬ k ≤ 4 := by omega
        simp [this]
      · have := Nat.le_of_ble_eq_true h3
        have : 256 ^ k ≤ n := this
        simp [this]
    simp only [putV, this, if_true]; rfl
  · rename_i h3
    cases h
    simp only [Bool.or_eq_true, not_or, Bool.not_eq_true] at h3
    obtain ⟨h3, h4, h5⟩ := h3
    have k0 := beqF h3
    have k4 := bltF h4
    have hlt : n < 256 ^ k := bleF h5
    have : (!(decide (0 < k) && decide (k ≤ 4)) || decide (256 ^ k ≤ n)) = false := by
      have a1 : 0 < k := by omega
      have a2 : ¬ 256 ^ k ≤ n := by omega
      simp [a1, k4, a2]
    simp only [putV, this, bytesN_leB]; rfl
end Go.Proofs.YtjakoidjbcnhbaaGreatDoor
end
section
/- mix.Key. -/
set_option maxRecDepth 100000
namespace Go.Proofs.YtjakoidjbcnhbaaGreatDoor
open Go.AM Go.AM.BM
attribute [local irreducible] U W

theorem put_fz (n : Nat) (hn : n < 4294967296) : Fz Tryz.prog polD 159 [.int .i64 n, .int .i64 4] fun r => r = .tuple [.islice (ofBytes (leB n 4)) 4 false, .int .i64 0] := by
  obtain ⟨r, H, h1, v0, rfl, _, h2⟩ := put_cw n 4 (by omega) (by decide)
  have e : putV n 4 = .tuple [.islice (ofBytes (leB n 4)) 4 false, .int .i64 0] := by
    have : ¬ 256 ^ 4 ≤ n := by omega
    simp [putV, this]
  exact ⟨v0, H, _, h1, h2, e⟩
theorem fourB_ok {l : List UInt8} (hl : l.length ≤ 1048576) : wok (fourB l) := by
  have ok := foldP_ok (l := padB l (padN l.length)) (j := (l.length + 1 + padN l.length) / 8) (by rw [padB_length]; omega)
  exact oftenW_ok 8 ⟨ok.1, xor_lt ok.2.1 (by omega), ok.2.2.1, ok.2.2.2⟩

def wi (x : W4) : Nat → Nat
  | 0 => x.a
  | 1 => x.b
  | 2 => x.c
  | _ => x.d
theorem wi_lt {x : W4} (h : wok x) : ∀ i, wi x i < 4294967296
  | 0 => h.1
  | 1 => h.2.1
  | 2 => h.2.2.1
  | _ + 3 => h.2.2.2
def keyB (x : W4) : Nat → List UInt8
  | 0 => []
  | i + 1 => keyB x i ++ leB (wi x i) 4
theorem keyB_length (x : W4) : ∀ i, (keyB x i).length = 4 * i
  | 0 => rfl
  | i + 1 => by simp [keyB, keyB_length x i, leB_length]; omega
def keyS (x : W4) : Nat → V
  | 0 => .nilslice
  | i + 1 => .gslice 0 21 (ofBytes (keyB x (i + 1))) (4 * (i + 1)) 1
def keyH : Nat → AM.Heap
  | 0 => [[]]
  | i + 1 => [[(21, .grow (4 * (i + 1)))]]
theorem frzN_gs {l : List UInt8} {f s n e : Nat} {g : Get} (h : g f s = some (.grow n)) (m : Nat) : frzN g (m + 2) (.gslice f s (ofBytes l) n e) = some (.islice (ofBytes l) n false) := by
  have fl : frzL (frzN g (m + 1)) (ofBytes l) = some (ofBytes l) := bytes_frzN _ _ _
  have e1 : frzN g (m + 2) (.gslice f s (ofBytes l) n e) = (match g f s with
      | some (.grow k) => if k = n then (frzL (frzN g (m + 1)) (ofBytes l)).map fun cs => .islice cs n false else none
      | _ => none) := rfl
  rw [e1, h]
  simp only [if_true, fl, Option.map_some]
theorem key_cw (v : V) (l : List UInt8) (hv : IsBytes v l) (hl : l.length ≤ 1048576) : CW Tryz.prog polD 254 [v] [] fun r H => ∃ v0, r = .ret v0 ∧ frzN (hget H) depth v0 = some (.islice (ofBytes (keyB (fourB l) 4)) 16 false) := by
  refine cw_of Tryz.func254 rfl ?_
  obtain ⟨m, rfl, hm⟩ := (four_fz v l hv hl).op (by rfl) (frzL_cons (hv.frz _) rfl)
  have hm' : ∀ s H, _ := fun s H => hm 254 0 s H rfl
  have ok := fourB_ok hl
  generalize fourB l = z at *
  simp only [tok_int, walk, walkL, evOp, quietOp, farOp, nov, gd, rho, putT, wr, Nat.reduceAdd, Nat.reduceSub, Bool.false_eq_true, if_true, if_false, reduceIte, reduceCtorEq, walkM, Int.reduceBEq, Int.reduceBNe, Int.reduceLT, Int.reduceLE, decide_true, decide_false, eq_self, Bool.not_true, Bool.not_false, ↓ev_fa, ↓ev_field, ↓ev_load, ↓ev_store, stO_cells, List.all_cons, List.all_nil, Bool.and_self, Bool.and_true, Tryz.ntmps254, ta254, new, hget, hset, fget, fset, List.modify_zero_cons, List.modify_succ_cons, List.modify_cons, Nat.reduceLT, Nat.reduceEqDiff, Nat.lt_irrefl, Nat.not_lt_zero, Nat.lt_add_one, splice, zerosN, fillV, walkB, pureL, V.pure, Nat.reduceMul, Nat.reduceLeDiff, Nat.one_ne_zero, and_self, and_true, true_and, List.take_zero, List.drop_succ_cons, List.drop_zero, List.take_succ_cons, List.replicate_one, Bool.and_self, Bool.and_true, List.drop_nil, List.take_nil, Nat.le_refl, Nat.zero_add, Nat.zero_mul, Nat.one_mul, Nat.mul_one, hm']
  refine W.ul ?_
  refine W.loopS (kt := [3, 9, 10]) rfl (fun i : Nat => st254_3 (keyS z i) (.agg (wc z)) (.int .i64 i)) keyH (fun i => i ≤ 4) (fun i => 4 - i) ?_ 0 (Nat.zero_le _) rfl rfl
  intro i hi
  simp only [st254_3]
  by_cases h : i < 4
  · have c1 : decide ((i : Int) < 4) = true := by simp; omega
    have ix : indexV Tryz.prog 341 (.agg (wc z)) (.int .i64 i) = some (.int .u32 (wi z i)) := by
      have : i = 0 ∨ i = 1 ∨ i = 2 ∨ i = 3 := by omega
      rcases this with rfl | rfl | rfl | rfl <;> (simp only [indexV, Tryz.underlying341, sz27]; rfl)
    have cv : ∀ g, convertV Tryz.prog g 27 3 (.int .u32 (wi z i)) = some (.val (.int .i64 (wi z i)) none) := fun g => by
      simp only [convertV, Tryz.underlying3, Tryz.underlying27]
      have := wi_lt ok i
      have : (IntKind.i64).wrap (wi z i : Int) = (wi z i : Int) := by rw [wrap_i64] <;> omega
      simp only [this]
    obtain ⟨m2, rfl, hm2⟩ := (put_fz (wi z i) (wi_lt ok i)).op (by rfl) rfl
    have hm2' : ∀ s H, _ := fun s H => hm2 254 0 s H rfl
    have w1 : (IntKind.i64).wrap ((i : Int) + 1) = ((i + 1 : Nat) : Int) := by rw [wrap_i64] <;> omega
    have mt : ∀ s, polD.mt 254 s = false := fun s => rfl
    have ap : appendV Tryz.prog (polD.mt 254) 0 (hget (keyH i)) (some 21) 26 26 (keyS z i) (.islice (ofBytes (leB (wi z i) 4)) 4 false) = some (.val (keyS z (i + 1)) (some (0, 21, .grow (4 * (i + 1))))) := by
      have e2 : ofBytes (keyB z (i + 1)) = ofBytes (keyB z i) ++ ofBytes (leB (wi z i) 4) := by rw [keyB, ofBytes_append]
      have sc : ∀ g, sliceCells g 1 (.islice (ofBytes (leB (wi z i) 4)) 4 false) = some (ofBytes (leB (wi z i) 4), 4) := fun g => by
        simp [sliceCells, ofBytes_length, leB_length]
      cases i with
      | zero =>
        rw [keyS, keyS, app_nil Tryz.underlying26 sz5 by8' zc5 rfl Tryz.underlying26 (sc _) (by omega) (by decide), grown_im (mt _) (pureL_ofBytes _) rfl, e2]
        rfl
      | succ i =>
        rw [keyS, keyS, app_more Tryz.underlying26 sz5 by8' zc5 rfl Tryz.underlying26 (sc _) (by omega) (roomy_of (by omega) (by omega)) (pureL_ofBytes _) (scalar_ofBytes _) rfl, e2, show 4 * (i + 1) + 4 = 4 * (i + 1 + 1) by omega]
    have hs2 : List.modify (keyH i) 0 (fun fr => fset fr 21 (.grow (4 * (i + 1)))) = keyH (i + 1) := by cases i <;> rfl
    generalize keyS z i = S at *
    generalize keyH i = K at *
    simp only [tok_int, walk, walkL, evOp, quietOp, farOp, nov, gd, rho, putT, wr, Nat.reduceAdd, Nat.reduceSub, Bool.false_eq_true, if_true, if_false, reduceIte, reduceCtorEq, walkM, Int.reduceBEq, Int.reduceBNe, Int.reduceLT, Int.reduceLE, decide_true, decide_false, eq_self, Bool.not_true, Bool.not_false, ↓ev_fa, ↓ev_field, ↓ev_load, ↓ev_store, stO_cells, List.all_cons, List.all_nil, Bool.and_self, Bool.and_true, ta254, new, hget, hset, fget, fset, List.modify_zero_cons, List.modify_succ_cons, List.modify_cons, Nat.reduceLT, Nat.reduceEqDiff, Nat.lt_irrefl, Nat.not_lt_zero, Nat.lt_add_one, splice, zerosN, fillV, walkB, pureL, V.pure, Nat.reduceMul, Nat.reduceLeDiff, Nat.one_ne_zero, and_self, and_true, true_and, List.take_zero, List.drop_succ_cons, List.drop_zero, List.take_succ_cons, List.replicate_one, Bool.and_self, Bool.and_true, List.drop_nil, List.take_nil, Nat.le_refl, Nat.zero_add, Nat.zero_mul, Nat.one_mul, Nat.mul_one, c1, ix, cv, hm2', mt, bi_append, ap, hs2, w1, Tryz.underlying26]
    exact W.done ⟨i + 1, rfl, rfl, h, by omega⟩
  · have hi4 : i = 4 := by omega
    subst hi4
    have c1 : decide (((4 : Nat) : Int) < 4) = false := rfl
    simp only [tok_int, walk, walkL, evOp, quietOp, farOp, nov, gd, rho, putT, wr, Nat.reduceAdd, Nat.reduceSub, Bool.false_eq_true, if_true, if_false, reduceIte, reduceCtorEq, walkM, Int.reduceBEq, Int.reduceBNe, Int.reduceLT, Int.reduceLE, decide_true, decide_false, eq_self, Bool.not_true, Bool.not_false, ↓ev_fa, ↓ev_field, ↓ev_load, ↓ev_store, stO_cells, List.all_cons, List.all_nil, Bool.and_self, Bool.and_true, ta254, new, hget, hset, fget, fset, List.modify_zero_cons, List.modify_succ_cons, List.modify_cons, Nat.reduceLT, Nat.reduceEqDiff, Nat.lt_irrefl, Nat.not_lt_zero, Nat.lt_add_one, splice, zerosN, fillV, walkB, pureL, V.pure, Nat.reduceMul, Nat.reduceLeDiff, Nat.one_ne_zero, and_self, and_true, true_and, List.take_zero, List.drop_succ_cons, List.drop_zero, List.take_succ_cons, List.replicate_one, Bool.and_self, Bool.and_true, List.drop_nil, List.take_nil, Nat.le_refl, Nat.zero_add, Nat.zero_mul, Nat.one_mul, Nat.mul_one, c1]
    refine W.done ?_
    simp only [tok_int, walk, walkL, evOp, quietOp, farOp, nov, gd, rho, putT, wr, Nat.reduceAdd, Nat.reduceSub, Bool.false_eq_true, if_true, if_false, reduceIte, reduceCtorEq, walkM, Int.reduceBEq, Int.reduceBNe, Int.reduceLT, Int.reduceLE, decide_true, decide_false, eq_self, Bool.not_true, Bool.not_false, ↓ev_fa, ↓ev_field, ↓ev_load, ↓ev_store, stO_cells, List.all_cons, List.all_nil, Bool.and_self, Bool.and_true, ta254, new, hget, hset, fget, fset, List.modify_zero_cons, List.modify_succ_cons, List.modify_cons, Nat.reduceLT, Nat.reduceEqDiff, Nat.lt_irrefl, Nat.not_lt_zero, Nat.lt_add_one, splice, zerosN, fillV, walkB, pureL, V.pure, Nat.reduceMul, Nat.reduceLeDiff, Nat.one_ne_zero, and_self, and_true, true_and, List.take_zero, List.drop_succ_cons, List.drop_zero, List.take_succ_cons, List.replicate_one, Bool.and_self, Bool.and_true, List.drop_nil, List.take_nil, Nat.le_refl, Nat.zero_add, Nat.zero_mul, Nat.one_mul, Nat.mul_one]
    refine W.done (End.ret (v := keyS z 4) rfl ⟨_, rfl, ?_⟩)
    rw [popF_keep rfl]
    exact frzN_gs rfl 10
theorem kKey_fz (ys : List V) (v : V) (h : kKey ys = some v) : FzN Tryz.prog polD 254 ys v := by
  unfold kKey at h
  split at h
  case h_2 => cases h
  rename_i x
  split at h
  case h_2 => cases h
  rename_i c hc
  cases h
  obtain ⟨l, rfl, hb, hl⟩ := bytesC_ok hc
  obtain ⟨r, H, e1, v0, rfl, e2⟩ := key_cw x l hb hl
  have e : keyC (fourW (ofBytes l)) = ofBytes (keyB (fourB l) 4) := by
    rw [fourW_B]
    simp only [keyC, keyB, bytesN_leB, ofBytes_append, List.append_assoc, wi]
    rfl
  rw [e]
  exact ⟨_, _, e1, e2⟩
end Go.Proofs.YtjakoidjbcnhbaaGreatDoor
end
section
/- the machine for closed laws: what it knows of the program, and that it is sound. -/
namespace Go.Proofs.YtjakoidjbcnhbaaGreatDoor
open Go.AM Go.AM.BM

noncomputable def polX : BM.Pol where
  prim := fun f => match f with
    | 70 => some (conP kTwin)
    | 61 => some (lookP kCheck)
    | 7 => some (conP kNew)
    | 111 => some (conP (kLeft 112))
    | 267 => some (lookP kMax)
    | 189 => some (lookP kSum)
    | 131 => some (lookP kGet)
    | 159 => some (lookP kPut)
    | 254 => some (lookP kKey)
    | 220 => some primMake
    | 298 => some primCount
    | 324 => some primIndexByte
    | _ => none
  fix := fun f => f == 134
  fixA := fun f => match f with
    | 186 => some 2
    | 108 => some 2
    | _ => none
theorem xMake : IsExtern Tryz.prog 220 (Extern.BytealgMakeNoZero.makeNoZero Tryz.f220.params Tryz.f220.resultTypes) := ⟨Tryz.f220, Tryz.func220, by kernel_rfl, by kernel_rfl, by kernel_rfl, by kernel_rfl⟩
theorem xCount : IsExtern Tryz.prog 298 Extern.BytealgCount.count := ⟨Tryz.f298, Tryz.func298, by kernel_rfl, by kernel_rfl, by kernel_rfl, by kernel_rfl⟩
theorem xIndex : IsExtern Tryz.prog 324 Extern.BytealgIndexByte.indexByte := ⟨Tryz.f324, Tryz.func324, by kernel_rfl, by kernel_rfl, by kernel_rfl, by kernel_rfl⟩
theorem polX_cases {f : FuncId} {g : BM.Prim} (h : polX.prim f = some g) :
    (f = 70 ∧ g = conP kTwin) ∨ (f = 61 ∧ g = lookP kCheck) ∨ (f = 7 ∧ g = conP kNew) ∨ (f = 111 ∧ g = conP (kLeft 112)) ∨ (f = 267 ∧ g = lookP kMax) ∨ (f = 189 ∧ g = lookP kSum) ∨ (f = 131 ∧ g = lookP kGet) ∨ (f = 159 ∧ g = lookP kPut) ∨ (f = 254 ∧ g = lookP kKey) ∨ (f = 220 ∧ g = primMake) ∨ (f = 298 ∧ g = primCount) ∨ (f = 324 ∧ g = primIndexByte) := by
  simp only [polX] at h
  split at h <;> cases h <;> simp

theorem okX : BM.Okay Tryz.prog polX where
  mixed := Tryz.checked.mixed
  draws := fun f F c hF hc => by
    rw [drawsC_eq]; exact okD.draws f F c hF hc
  loops := fun f F c hF hc => by
    rw [flatC_eq]; exact okD.loops f F c hF hc
  num := okD.num
  prim := fun f g hg B F H E fr dst args cargs v x S one h0 htab hr h => by
    rcases polX_cases hg with ⟨rfl, rfl⟩ | ⟨rfl, rfl⟩ | ⟨rfl, rfl⟩ | ⟨rfl, rfl⟩ | ⟨rfl, rfl⟩ | ⟨rfl, rfl⟩ | ⟨rfl, rfl⟩ | ⟨rfl, rfl⟩ | ⟨rfl, rfl⟩ | ⟨rfl, rfl⟩ | ⟨rfl, rfl⟩ | ⟨rfl, rfl⟩
    · exact conP_sound okD kTwin_fz B F H E fr dst args cargs v x S one h0 htab hr h
    · exact lookP_sound okD kCheck_fz B F H E fr dst args cargs v x S one h0 htab hr h
    · exact conP_sound okD kNew_fz B F H E fr dst args cargs v x S one h0 htab hr h
    · exact conP_sound okD kLeft_fz B F H E fr dst args cargs v x S one h0 htab hr h
    · exact lookP_sound okD kMax_fz B F H E fr dst args cargs v x S one h0 htab hr h
    · exact lookP_sound okD kSum_fz B F H E fr dst args cargs v x S one h0 htab hr h
    · exact lookP_sound okD kGet_fz B F H E fr dst args cargs v x S one h0 htab hr h
    · exact lookP_sound okD kPut_fz B F H E fr dst args cargs v x S one h0 htab hr h
    · exact lookP_sound okD kKey_fz B F H E fr dst args cargs v x S one h0 htab hr h
    · exact invokes_am one (AM.sound_make xMake (e := 5) (by kernel_rfl) S (by omega) hr h)
    · exact invokes_am one (AM.sound_count xCount S hr h)
    · exact invokes_am one (AM.sound_indexByte xIndex S hr h)
  loop := fun f F c _ _ => loopOk_none (fun _ => rfl) c
  tame := {
    prim := fun f g hg nm G G' args v w hle hn h => by
      rcases polX_cases hg with ⟨rfl, rfl⟩ | ⟨rfl, rfl⟩ | ⟨rfl, rfl⟩ | ⟨rfl, rfl⟩ | ⟨rfl, rfl⟩ | ⟨rfl, rfl⟩ | ⟨rfl, rfl⟩ | ⟨rfl, rfl⟩ | ⟨rfl, rfl⟩ | ⟨rfl, rfl⟩ | ⟨rfl, rfl⟩ | ⟨rfl, rfl⟩
      · exact conP_tame _ nm G G' args v w hle h
      · exact lookP_tame _ nm G G' args v w hle h
      · exact conP_tame _ nm G G' args v w hle h
      · exact conP_tame _ nm G G' args v w hle h
      · exact lookP_tame _ nm G G' args v w hle h
      · exact lookP_tame _ nm G G' args v w hle h
      · exact lookP_tame _ nm G G' args v w hle h
      · exact lookP_tame _ nm G G' args v w hle h
      · exact lookP_tame _ nm G G' args v w hle h
      · exact primMake_tame nm G G' args v w hle hn h
      · exact primCount_tame nm G G' args v w hle h
      · exact primIndexByte_tame nm G G' args v w hle h
    loop := fun fn r g hg => by cases hg }
end Go.Proofs.YtjakoidjbcnhbaaGreatDoor
end
