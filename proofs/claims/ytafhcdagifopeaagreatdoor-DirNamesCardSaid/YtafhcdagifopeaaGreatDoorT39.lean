/- This file holds in one the texts DJ, D01, D1, D2; each says at its head what it proves. -/
import Derived.Test.YtafhcdagifopeaaGreatDoorT22
import Derived.Test.YtafhcdagifopeaaGreatDoorT27
import Derived.Test.YtafhcdagifopeaaGreatDoorT35
import Derived.Test.YtafhcdagifopeaaGreatDoorT38
set_option linter.unusedSimpArgs false
set_option linter.unusedVariables false
section
/- mix.Sum and code.Get by plain functions. -/
set_option maxRecDepth 100000
namespace Go.Proofs.YtafhcdagifopeaaGreatDoor
open Go.AM Go.AM.BM
attribute [local irreducible] U W

theorem sum_cw (v : V) (l : List UInt8) (hv : IsBytes v l) (hl : l.length ≤ 1048576) : CW Tryz.prog polD 146 [v] [] fun r _ => r = .ret (.int .u32 (fourB l).a) := by
  refine cw_of Tryz.func146 rfl ?_
  obtain ⟨m, rfl, hm⟩ := (four_fz v l hv hl).op (by rfl) (frzL_cons (hv.frz _) rfl)
  have hm' : ∀ s H, _ := fun s H => hm 146 0 s H rfl
  have ix : indexV Tryz.prog 247 (.agg (wc (fourB l))) (.int .i64 0) = some (.int .u32 (fourB l).a) := by
    simp only [indexV, Tryz.underlying247, sz27]; rfl
  generalize fourB l = z at *
  simp only [tok_int, walk, walkL, evOp, quietOp, farOp, nov, gd, rho, putT, wr, Nat.reduceAdd, Nat.reduceSub, Bool.false_eq_true, if_true, if_false, reduceIte, reduceCtorEq, walkM, Int.reduceBEq, Int.reduceBNe, Int.reduceLT, Int.reduceLE, decide_true, decide_false, eq_self, Bool.not_true, Bool.not_false, ↓ev_fa, ↓ev_field, ↓ev_load, ↓ev_store, stO_cells, List.all_cons, List.all_nil, Bool.and_self, Bool.and_true, Tryz.ntmps146, ta146, new, hget, hset, fget, fset, List.modify_zero_cons, List.modify_succ_cons, List.modify_cons, Nat.reduceLT, Nat.reduceEqDiff, Nat.lt_irrefl, Nat.not_lt_zero, Nat.lt_add_one, splice, zerosN, fillV, walkB, pureL, V.pure, Nat.reduceMul, Nat.reduceLeDiff, Nat.one_ne_zero, and_self, and_true, true_and, List.take_zero, List.drop_succ_cons, List.drop_zero, List.take_succ_cons, List.replicate_one, Bool.and_self, Bool.and_true, List.drop_nil, List.take_nil, Nat.le_refl, Nat.zero_add, Nat.zero_mul, Nat.one_mul, Nat.mul_one, hm', ix]
  exact W.done (End.ret (v := .int .u32 z.a) rfl rfl)

noncomputable def foldF : List UInt8 → Nat → W4 → W4
  | _, 0, x => x
  | L, m + 1, x => foldF (L.drop 8) m (stepP x (L.take 8))
theorem foldF_succ : ∀ (j : Nat) (L : List UInt8) (x : W4), foldF L (j + 1) x = stepP (foldF L j x) ((L.drop (8 * j)).take 8)
  | 0, L, x => rfl
  | j + 1, L, x => by
    have := foldF_succ j (L.drop 8) (stepP x (L.take 8))
    rw [foldF, this, List.drop_drop, show 8 + 8 * j = 8 * (j + 1) by omega]
    rfl
theorem foldP_F : ∀ (j : Nat) (L : List UInt8), foldP L j = foldF L j ⟨1, 2, 3, 4⟩
  | 0, L => rfl
  | j + 1, L => by rw [foldF_succ, foldP, foldP_F j L]
theorem chunksW_F : ∀ (m n : Nat) (L : List UInt8) (x : W4), L.length = 8 * m → m ≤ n → chunksW n (ofBytes L) x = foldF L m x
  | 0, n, L, x, h, _ => by
    have : L = [] := List.eq_nil_of_length_eq_zero h
    subst this; cases n <;> rfl
  | m + 1, n, L, x, h, hn => by
    obtain ⟨n, rfl⟩ : ∃ k, n = k + 1 := ⟨n - 1, by omega⟩
    match L, h with
    | a :: b :: c :: d :: e :: f :: g :: i :: r, h =>
      have ih := chunksW_F m n r (stepP x [a, b, c, d, e, f, g, i]) (by simp only [List.length_cons] at h; omega) (by omega)
      have e1 : foldF (a :: b :: c :: d :: e :: f :: g :: i :: r) (m + 1) x = foldF r m (stepP x [a, b, c, d, e, f, g, i]) := rfl
      have e2 : chunksW (n + 1) (ofBytes (a :: b :: c :: d :: e :: f :: g :: i :: r)) x = force (Nat.xor x.a (numL [a, b, c, d])) fun p => force (Nat.xor x.c (numL [e, f, g, i])) fun q => chunksW n (ofBytes r) (oftenW (nat_lit 4) ⟨p, x.b, q, x.d⟩) := rfl
      rw [e1, ← ih, e2, force_eq, force_eq]
      rfl
    | [], h => simp at h
    | [_], h => simp at h; omega
    | [_, _], h => simp at h; omega
    | [_, _, _], h => simp at h; omega
    | [_, _, _, _], h => simp at h; omega
    | [_, _, _, _, _], h => simp at h; omega
    | [_, _, _, _, _, _], h => simp at h; omega
    | [_, _, _, _, _, _, _], h => simp at h; omega
theorem fourW_B (l : List UInt8) : fourW (ofBytes l) = fourB l := by
  have hp : pad8 (ofBytes l) = ofBytes (padB l (padN l.length)) := by
    simp [pad8, padB, padN, ofBytes]
  have m8 : l.length + 1 + padN l.length = 8 * ((l.length + 1 + padN l.length) / 8) := by unfold padN; omega
  have pn : padN l.length < 8 := Nat.mod_lt _ (by decide)
  have h := chunksW_F ((l.length + 1 + padN l.length) / 8) (l.length + 1) (padB l (padN l.length)) ⟨1, 2, 3, 4⟩ (by rw [padB_length]; exact m8) (by omega)
  have e : fourW (ofBytes l) = (match chunksW ((ofBytes l).length + 1) (pad8 (ofBytes l)) ⟨1, 2, 3, 4⟩ with
    | x => oftenW 8 ⟨x.a, Nat.xor x.b (ofBytes l).length, x.c, x.d⟩) := rfl
  rw [e, hp, ofBytes_length, h, ← foldP_F]
  rfl
theorem kSum_fz (ys : List V) (v : V) (h : kSum ys = some v) : FzN Tryz.prog polD 146 ys v := by
  unfold kSum at h
  split at h
  case h_2 => cases h
  rename_i x
  split at h
  case h_2 => cases h
  rename_i c hc
  cases h
  obtain ⟨l, rfl, hb, hl⟩ := bytesC_ok hc
  obtain ⟨r, H, e1, rfl⟩ := sum_cw x l hb hl
  rw [fourW_B]
  exact ⟨_, _, e1, rfl⟩
end Go.Proofs.YtafhcdagifopeaaGreatDoor
end
section
/- what the machine for closed laws takes of the program: the same. -/
namespace Go.Proofs.YtafhcdagifopeaaGreatDoor
open Go.AM
theorem drawsC_eq : ∀ c : Code, BM.drawsC c = drawsC c := by
  intro c
  induction c with
  | region id ops draw => rfl
  | seq a b iha ihb => simp only [BM.drawsC, drawsC, iha, ihb]
  | cond c a b iha ihb => simp only [BM.drawsC, drawsC, iha, ihb]
  | rangeFunc g ps a b iha ihb => simp only [BM.drawsC, drawsC, iha, ihb]
  | block i b ih => simp only [BM.drawsC, drawsC, ih]
  | loop b ih => simp only [BM.drawsC, drawsC, ih]
  | scope b ih => simp only [BM.drawsC, drawsC, ih]
  | _ => rfl
theorem flatC_eq : ∀ c : Code, BM.flatC c = flatC c := by
  intro c
  induction c with
  | seq a b iha ihb => simp only [BM.flatC, flatC, iha, ihb]
  | cond c a b iha ihb => simp only [BM.flatC, flatC, iha, ihb]
  | block i b ih => simp only [BM.flatC, flatC, ih]
  | loop b ih => simp only [BM.flatC, flatC, ih]
  | scope b ih => simp only [BM.flatC, flatC, ih]
  | _ => rfl
end Go.Proofs.YtafhcdagifopeaaGreatDoor
end
section
/- dev: pieces of new memory. -/
set_option maxRecDepth 100000
namespace Go.Proofs.YtafhcdagifopeaaGreatDoor
open Go.AM
attribute [local irreducible] U W

theorem by27 : byt Tryz.prog 26 = some 24 := by kernel_rfl
theorem by8 : byt Tryz.prog 5 = some 1 := by kernel_rfl
theorem by64 : byt Tryz.prog 3 = some 8 := by kernel_rfl

def rowsM (k : Nat) (i : Nat) : List V := (List.range i).map fun j => .mslice k 20 (256 * j) 256 (some 256) 1
theorem rowsM_succ (k i : Nat) : rowsM k (i + 1) = rowsM k i ++ [.mslice k 20 (256 * i) 256 (some 256) 1] := by simp [rowsM, List.range_succ]
theorem rowsM_refs (k i : Nat) (p : Nat → Nat → Bool) (h : p k 20 = false) : refsL p (rowsM k i) = false := by
  have : ∀ l : List Nat, refsL p (l.map fun j => V.mslice k 20 (256 * j) 256 (some 256) 1) = false := by
    intro l
    induction l with
    | nil => rfl
    | cons j l ih => simp only [List.map_cons, refsL, V.refs, h, ih, Bool.or_self]
  exact this _

def restM (k i : Nat) : V := .mslice k 20 (if i < 256 then 256 * i else 65280) (65536 - 256 * i) (some (65536 - 256 * i)) 1

theorem clear_fresh {K : Heap} (hw : WF K) {p : Nat → Nat → Bool} (hp : ∀ f s, p f s = true → K.length ≤ f) : clearH p K = true := by
  refine clearH_mono (fun f s h => ?_) K hw
  simp only [Nat.ble_eq]
  exact hp f s h

def outM (k i : Nat) : V := if i = 0 then .nilslice else .gslice k 33 (rowsM k i) i 1
def frM (Z : List V) (i : Nat) : AM.Frame := if i = 0 then [(20, .cells Z)] else [(20, .cells Z), (33, .grow i)]
def frM' (Z : List V) (x : V) (i : Nat) : AM.Frame := if i = 0 then [(20, .cells Z)] else [(20, .cells Z), (32, .cells [x]), (33, .grow i)]
theorem frM_del (Z : List V) (x : V) (i : Nat) : fdel (fun s => [32].contains s) (frM' Z x i) = frM Z i := by
  unfold frM frM'; split <;> rfl
theorem cut_nn {P : Program} {u e : TypeId} (hu : P.underlying u = some (.slice e)) {q : Nat} (hs : sz P e = some q) {g : Get} {f s o len c n : Nat} {k : IntKind} (h : n ≤ c) :
    sliceV P g u (.mslice f s o len (some c) q) none (some (.int k n)) (some (.int k n)) = some (.mslice f s o n (some n) q) := by
  simp only [sliceV, optInt, hu, hs, if_true, cutM, cuts, Option.getD_none, Option.getD_some]
  rw [if_pos ⟨by omega, by omega, by omega, by omega, by omega, by omega, by simp⟩]
  simp
theorem app_out (K : Heap) (Z : List V) (i : Nat) (hi : i < 256) (x : V) (hx : x.scalar = true) :
    appendV Tryz.prog (polD.mt 155) K.length (hget (K ++ [fset (frM Z i) 32 (.cells [x])])) (some 33) 22 22 (outM K.length i) (.mslice K.length 32 0 1 (some 1) 1) =
      some (.val (if i = 0 then .gslice K.length 33 [x] 1 1 else .gslice K.length 33 (rowsM K.length i ++ [x]) (i + 1) 1) (some (K.length, 33, .grow (i + 1)))) := by
  have g32 : hget (K ++ [fset (frM Z i) 32 (.cells [x])]) K.length 32 = some (.cells [x]) := by
    rw [hget_app0]
    show fget (fset (frM Z i) 32 _) 32 = _
    rw [fget_fset]; rfl
  have g33 : hget (K ++ [fset (frM Z i) 32 (.cells [x])]) K.length 33 = if i = 0 then none else some (.grow i) := by
    rw [hget_app0]
    show fget (fset (frM Z i) 32 _) 33 = _
    rw [fget_fset, if_neg (by decide)]
    unfold frM; by_cases h : i = 0
    · simp only [h, if_true]; rfl
    · simp only [h, if_false]; rfl
  have sc : sliceCells (hget (K ++ [fset (frM Z i) 32 (.cells [x])])) 1 (.mslice K.length 32 0 1 (some 1) 1) = some ([x], 1) := by
    simp only [sliceCells, g32]; rfl
  have hsc : ([x] : List V).all V.scalar = true := by simp [hx]
  unfold outM
  by_cases h : i = 0
  · subst h
    simp only [if_true] at g33 ⊢
    rw [app_nil Tryz.underlying22 sz26 by27 zc26 rfl Tryz.underlying22 sc (by decide) (by decide)]
    simp [grown, polD, new, g33]
  · simp only [h, if_false] at g33 ⊢
    have hr : roomy (i + 1) 24 = true := roomy_of (by omega) (by omega)
    simp only [appendV, Tryz.underlying22, sz26, by27, zc26, appSrc, sc, appendTo, hr, hsc, g33, List.length_cons, List.length_nil, if_true, and_self]

theorem refsL_zeros (p : Nat → Nat → Bool) (z : List V) (n : Nat) (h : refsL p z = false) : refsL p (zerosN z n) = false := by
  induction n with
  | zero => rfl
  | succ n ih =>
    have app : ∀ a b : List V, refsL p a = false → refsL p b = false → refsL p (a ++ b) = false := by
      intro a b ha hb
      induction a with
      | nil => exact hb
      | cons x a iha => simp only [refsL, List.cons_append, Bool.or_eq_false_iff] at ha ⊢; exact ⟨ha.1, iha ha.2⟩
    exact app _ _ h ih
theorem cut_cw (K : Heap) (hw : WF K) (v : V) (L : List Int) (hl : L.length = 256) (hL : ∀ i, i < 256 → L[i]? = some 256) (hv : IsInts v L) :
    CW Tryz.prog polD 155 [v] K fun r K' => r = .ret (.gslice K.length 33 (rowsM K.length 256) 256 1) ∧ K' = K ++ [[(20, .cells (zerosN [.int .u8 0] 65536)), (33, .grow 256)]] := by
  refine cw_of Tryz.func155 rfl ?_
  have len := hv.len Tryz.underlying32
  rw [hl] at len
  have at0 : ∀ i : Nat, i < 256 → indexAddrV Tryz.prog 32 v (.int .i64 i) = some (.iptr (ofInts L) ((i : Int).toNat * 1)) := fun i h => by
    exact hv.at Tryz.underlying32 sz3 (by decide) (by omega) (by rw [hl]; omega)
  have get0 : ∀ i : Nat, i < 256 → (ofInts L)[(i : Int).toNat * 1]? = some (.int .i64 256) := fun i h => by
    rw [ofInts_get]; simp [hL i h]
  simp only [tok_int, walk, walkL, evOp, quietOp, farOp, nov, gd, rho, putT, wr, Nat.reduceAdd, Nat.reduceSub, Bool.false_eq_true, if_true, if_false, reduceIte, reduceCtorEq, Tryz.ntmps155, len]
  refine W.ul ?_
  refine W.loopS (kt := [0, 2, 3, 9, 10, 11]) rfl (fun i : Nat => st155_3 v .nilslice (.int .i64 ((256 * i : Nat) : Int)) v (.int .i64 ((256 : Nat) : Int)) (.int .i64 i)) (fun _ => K ++ [[]]) (fun i => i ≤ 256) (fun i => 256 - i) ?_ 0 (by omega) rfl rfl
  rintro i hi
  simp only [st155_3]
  by_cases h : i < 256
  · have c1 : decide ((i : Int) < ((256 : Nat) : Int)) = true := decide_eq_true (by omega)
    have w1 := wrap_add1 (i := i) (by omega)
    have w2 : (IntKind.i64).wrap (((256 * i : Nat) : Int) + 256) = ((256 * (i + 1) : Nat) : Int) := by rw [wrap_i64] <;> omega
    simp only [tok_int, walk, walkL, evOp, quietOp, farOp, nov, gd, rho, putT, wr, Nat.reduceAdd, Nat.reduceSub, Bool.false_eq_true, if_true, if_false, reduceIte, reduceCtorEq, c1, at0 i h, rd3, get0 i h, w1, w2]
    exact W.done ⟨i + 1, rfl, rfl, by omega, by omega⟩
  · have c1 : decide ((i : Int) < ((256 : Nat) : Int)) = false := decide_eq_false (by omega)
    have hi2 : i = 256 := by omega
    subst hi2
    simp only [tok_int, walk, walkL, evOp, quietOp, farOp, nov, gd, rho, putT, wr, Nat.reduceAdd, Nat.reduceSub, Bool.false_eq_true, if_true, if_false, reduceIte, reduceCtorEq, c1]
    refine W.done ?_
    have e1 : ((256 * 256 : Nat) : Int) = 65536 := rfl
    have rm : roomy 65536 1 = true := by decide
    generalize hZ : zerosN [V.int .u8 0] 65536 = Z
    have hZ' : zerosN [V.int .u8 0] (65536 : Int).toNat = Z := hZ
    simp only [tok_int, walk, walkL, evOp, quietOp, farOp, nov, gd, rho, putT, wr, Nat.reduceAdd, Nat.reduceSub, Bool.false_eq_true, if_true, if_false, reduceIte, reduceCtorEq, e1, Tryz.underlying26, sz5, by8, zc5, Int.reduceLE, Int.reduceToNat, rm, and_self, new, hget_app, hget_app0, hset_app, hset_app0, hset_zero, hget_zero, hset_succ, hget_succ, fget, fset, Nat.reduceLT, Nat.reduceEqDiff, Nat.lt_irrefl, Nat.not_lt_zero, Nat.lt_add_one, len, hZ, hZ']
    refine W.ul ?_
    have hk32 : ∀ i, (outM K.length i).refs (fun f s => f == K.length && [32].contains s) = false := by
      intro i
      unfold outM
      split
      · rfl
      · have := rowsM_refs K.length i (fun f s => f == K.length && [32].contains s) (by simp)
        simp only [V.refs, this]; simp
    refine W.loop (fun (i : Nat) t H => ∃ x : V, maskT [2, 6, 21, 22, 23] t 0 = st155_9 (outM K.length i) (restM K.length i) v (.int .i64 ((256 : Nat) : Int)) (.int .i64 i) ∧ i ≤ 256 ∧ H = K ++ [frM' Z x i] ∧ x.refs (fun f s => f == K.length && [32].contains s) = false)
      (fun i => 256 - i) ?_ 0 ⟨.bad, rfl, by omega, rfl, rfl⟩ rfl
    rintro i t H ⟨x, ht, hi, rfl, hx⟩
    have vr : v.refs (fun f s => f == K.length && [32].contains s) = false := hv.noRefs _
    have zr : refsL (fun f s => f == K.length && [32].contains s) Z = false := by rw [← hZ]; exact refsL_zeros _ _ _ rfl
    have hd : (K ++ [frM' Z x i]).modify K.length (fdel fun s => [32].contains s) = K ++ [frM Z i] := by
      have := modify_app (fdel fun s => [32].contains s) K [frM' Z x i] 0
      rw [Nat.add_zero] at this
      rw [this, ← frM_del Z x i]; rfl
    refine ⟨_, _, forget_drop (kt := [2, 6, 21, 22, 23]) (ds := [32]) rfl ?_ ?_, ?_⟩
    · rw [ht]
      simp only [st155_9, refsL, V.refs, hk32 i, vr, restM]; simp
    · rw [hd, clearH_append, clear_fresh hw (fun f s h => by simp at h; omega)]
      unfold frM
      split <;> simp only [clearH, clearF, O.refs, zr] <;> rfl
    rw [ht, hd]
    simp only [st155_9]
    by_cases h : i < 256
    · have c1 : decide ((i : Int) < ((256 : Nat) : Int)) = true := decide_eq_true (by omega)
      have w1 := wrap_add1 (i := i) (by omega)
      have rs : restM K.length i = .mslice K.length 20 (256 * i) (65536 - 256 * i) (some (65536 - 256 * i)) 1 := by simp only [restM, h, if_true]
      have rs2 : V.mslice K.length 20 (if 65536 - 256 * i = 256 then 256 * i else 256 * i + 256 * 1) (65536 - 256 * i - 256) (some (65536 - 256 * i - 256)) 1 = restM K.length (i + 1) := by
        unfold restM
        have e1 : 65536 - 256 * i - 256 = 65536 - 256 * (i + 1) := by omega
        rw [e1]
        congr 1
        by_cases h2 : i = 255
        · subst h2; rfl
        · rw [if_neg (by omega), if_pos (by omega)]; omega
      have sl1 : ∀ g, sliceV Tryz.prog g 26 (.mslice K.length 20 (256 * i) (65536 - 256 * i) (some (65536 - 256 * i)) 1) none (some (.int .i64 256)) (some (.int .i64 256)) = some (.mslice K.length 20 (256 * i) 256 (some 256) 1) :=
        fun g => cut_nn (n := 256) Tryz.underlying26 sz5 (by omega)
      have sl2 : ∀ g, sliceV Tryz.prog g 26 (.mslice K.length 20 (256 * i) (65536 - 256 * i) (some (65536 - 256 * i)) 1) (some (.int .i64 256)) none none = some (restM K.length (i + 1)) := fun g => by
        rw [← rs2]; exact cut_from (w := 256) Tryz.underlying26 sz5 (by omega) (by omega) g
      have n32 : hget (K ++ [frM Z i]) K.length 32 = none := by
        rw [hget_app0]; show fget (frM Z i) 32 = none; unfold frM; split <;> rfl
      have s32 : ∀ o, hset (K ++ [frM Z i]) K.length 32 o = K ++ [fset (frM Z i) 32 o] := fun o => hset_app0 _ _ _ _
      have s33 : ∀ y, hset (K ++ [fset (frM Z i) 32 (.cells [y])]) K.length 33 (.grow (i + 1)) = K ++ [frM' Z y (i + 1)] := fun y => by
        rw [hset_app0]; show K ++ [fset (fset (frM Z i) 32 _) 33 _] = _
        unfold frM frM'; rw [if_neg (Nat.succ_ne_zero i)]; split <;> rfl
      have ap := app_out K Z i h (.mslice K.length 20 (256 * i) 256 (some 256) 1) rfl
      have eo : (if i = 0 then V.gslice K.length 33 [.mslice K.length 20 (256 * i) 256 (some 256) 1] 1 1 else .gslice K.length 33 (rowsM K.length i ++ [.mslice K.length 20 (256 * i) 256 (some 256) 1]) (i + 1) 1) = outM K.length (i + 1) := by
        unfold outM
        rw [if_neg (Nat.succ_ne_zero i), rowsM_succ]
        by_cases h0 : i = 0
        · subst h0; rfl
        · rw [if_neg h0]
      rw [eo] at ap
      have mt32 : polD.mt 155 32 = true := rfl
      have get1 : (ofInts L)[(i : Int).toNat]? = some (.int .i64 256) := by have := get0 i h; rwa [Nat.mul_one] at this
      rw [rs]
      simp only [tok_int, walk, walkL, evOp, quietOp, farOp, nov, gd, rho, putT, wr, Nat.reduceAdd, Nat.reduceSub, Bool.false_eq_true, if_true, if_false, reduceIte, reduceCtorEq, c1, at0 i h, rd3, get0 i h, get1, w1, sl1, sl2, Tryz.underlying22, sz26, zc26, mt32, new, n32, s32, bi_append, ap, s33, splice, zerosN, fillV, walkB, pureL, V.pure, Nat.reduceMul, Nat.reduceLeDiff, Nat.one_ne_zero, and_self, and_true, true_and, List.take_zero, List.drop_succ_cons, List.drop_zero, List.take_succ_cons, List.replicate_one, Bool.and_self, Bool.and_true, List.drop_nil, List.take_nil, Nat.le_refl, Nat.zero_add, Nat.zero_mul, Nat.one_mul, Nat.mul_one]
      exact W.done ⟨i + 1, ⟨_, rfl, by omega, rfl, by simp [V.refs]⟩, by omega⟩
    · have c1 : decide ((i : Int) < ((256 : Nat) : Int)) = false := decide_eq_false (by omega)
      have hi2 : i = 256 := by omega
      subst hi2
      simp only [tok_int, walk, walkL, evOp, quietOp, farOp, nov, gd, rho, putT, wr, Nat.reduceAdd, Nat.reduceSub, Bool.false_eq_true, if_true, if_false, reduceIte, reduceCtorEq, c1]
      refine W.done ?_
      simp only [tok_int, walk, walkL, evOp, quietOp, farOp, nov, gd, rho, putT, wr, Nat.reduceAdd, Nat.reduceSub, Bool.false_eq_true, if_true, if_false, reduceIte, reduceCtorEq]
      refine W.done (End.ret (v := outM K.length 256) rfl ?_)
      rw [popF_keep (by simp [outM, V.refs])]
      exact ⟨rfl, rfl⟩
end Go.Proofs.YtafhcdagifopeaaGreatDoor
end
section
/- dev: rows; bytes.Clone. -/
set_option maxRecDepth 100000
namespace Go.Proofs.YtafhcdagifopeaaGreatDoor
open Go.AM
attribute [local irreducible] U W

def isNum : V → Bool
  | .int _ _ => true
  | _ => false
def Row256 (c : List V) : Prop := c.length = 256 ∧ c.all isNum = true
theorem isNum_scalar {x : V} (h : isNum x = true) : x.scalar = true := by cases x <;> first | rfl | cases h
theorem nums_scalar {c : List V} (h : c.all isNum = true) : c.all V.scalar = true := by
  rw [List.all_eq_true] at h ⊢
  exact fun x hx => isNum_scalar (h x hx)
theorem nums_refs (p : Nat → Nat → Bool) : ∀ {c : List V}, c.all isNum = true → refsL p c = false
  | [], _ => rfl
  | x :: c, h => by
    simp only [List.all_cons, Bool.and_eq_true] at h
    simp only [refsL, nums_refs p h.2, Bool.or_false]
    cases x <;> first | rfl | (cases h.1)
theorem clone_cw (K : Heap) (c : List V) (fl : Bool) (hc : Row256 c) :
    CW Tryz.prog polD 53 [.islice c 256 fl] K fun r K' => r = .ret (.mslice K.length 7 0 256 none 1) ∧ K' = K ++ [[(5, .cells []), (7, .cells c)]] := by
  refine cw_of Tryz.func53 rfl ?_
  have nn := eq_islice (P := Tryz.prog) (t := 26) Tryz.underlying26 (x := .tmp 3) (y := .const (.slice none 0 0)) (cs := c) (n := 256) (f := fl)
  have mt5 : polD.mt 53 5 = true := rfl
  have mt7 : polD.mt 53 7 = true := rfl
  have sc : ∀ g, sliceCells g 1 (.islice c 256 fl) = some (c, 256) := fun g => by simp [sliceCells, hc.1]
  have s5 : hset (K ++ [[]]) K.length 5 (.cells []) = K ++ [[(5, .cells [])]] := by rw [hset_app0]; rfl
  have n5 : hget (K ++ [[]]) K.length 5 = none := by rw [hget_app0]; rfl
  have n7 : hget (K ++ [[(5, O.cells [])]]) K.length 7 = none := by rw [hget_app0]; rfl
  have g5 : hget (K ++ [[(5, O.cells [])]]) K.length 5 = some (.cells []) := by rw [hget_app0]; rfl
  have ap : appendV Tryz.prog (polD.mt 53) K.length (hget (K ++ [[(5, O.cells [])]])) (some 7) 26 26 (.mslice K.length 5 0 0 (some 0) 1) (.islice c 256 fl) = some (.val (.mslice K.length 7 0 256 none 1) (some (K.length, 7, .cells c))) := by
    simp only [appendV, Tryz.underlying26, sz5, by8, zc5, appSrc, sc, appendTo, g5]
    simp [grown, mt7, new, n7, nums_scalar hc.2, roomy]
  have s7 : hset (K ++ [[(5, O.cells [])]]) K.length 7 (.cells c) = K ++ [[(5, .cells []), (7, .cells c)]] := by rw [hset_app0]; rfl
  simp only [tok_int, walk, walkL, evOp, quietOp, farOp, nov, gd, rho, putT, wr, Nat.reduceAdd, Nat.reduceSub, Bool.false_eq_true, if_true, if_false, reduceIte, reduceCtorEq, Tryz.ntmps53, nn, mt5, new, n5, s5, bi_append, ap, s7, Tryz.underlying26, sz5, zc5, splice, zerosN, fillV, walkB, pureL, V.pure, Nat.reduceMul, Nat.reduceLeDiff, Nat.one_ne_zero, and_self, and_true, true_and, List.take_zero, List.drop_succ_cons, List.drop_zero, List.take_succ_cons, List.replicate_one, Bool.and_self, Bool.and_true, List.drop_nil, List.take_nil, Nat.le_refl, Nat.zero_add, Nat.zero_mul, Nat.one_mul, Nat.mul_one]
  refine W.done (End.ret (v := .mslice K.length 7 0 256 none 1) rfl ?_)
  rw [popF_keep (by simp [V.refs])]
  exact ⟨rfl, rfl⟩
theorem nums_frz (g : Get) (n : Nat) : ∀ {c : List V}, c.all isNum = true → frzL (frz g (n + 1)) c = some c
  | [], _ => rfl
  | x :: c, h => by
    simp only [List.all_cons, Bool.and_eq_true] at h
    have hx : frz g (n + 1) x = some x := by cases x <;> first | rfl | (cases h.1)
    simp only [frzL, hx, nums_frz g n h.2]
theorem frz_cells {g : Get} {f s o len esz m : Nat} {cap : Option Nat} {xs : List V} (hg : g f s = some (.cells xs)) (hl : o + len * esz ≤ xs.length) (hx : frzL (frz g (m + 1)) ((xs.drop o).take (len * esz)) = some ((xs.drop o).take (len * esz))) :
    frz g (m + 2) (.mslice f s o len cap esz) = some (.islice ((xs.drop o).take (len * esz)) len (cap == some len)) := by
  have e : frz g (m + 2) (.mslice f s o len cap esz) = (match g f s with
      | some (.cells xs) => if o + len * esz ≤ xs.length then (frzL (frz g (m + 1)) ((xs.drop o).take (len * esz))).map fun cs => .islice cs len (cap == some len) else none
      | _ => none) := rfl
  rw [e, hg]
  simp only [hl, if_true, hx, Option.map_some]
theorem clone_fz (c : List V) (fl : Bool) (hc : Row256 c) : Fz Tryz.prog polD 53 [.islice c 256 fl] fun r => r = .islice c 256 false := by
  refine Fz.of_cw ((clone_cw [] c fl hc).mono ?_)
  rintro r H' ⟨rfl, rfl⟩
  have e : (c.drop 0).take (256 * 1) = c := by
    rw [List.drop_zero, List.take_of_length_le (Nat.le_of_eq hc.1)]
  have hf := frz_cells (g := hget ([] ++ [[(5, O.cells []), (7, O.cells c)]])) (f := 0) (s := 7) (o := 0) (len := 256) (esz := 1) (cap := none) (xs := c) (m := 10) rfl (by rw [hc.1]; exact Nat.le_refl _) (by rw [e]; exact nums_frz _ _ hc.2)
  exact ⟨_, rfl, _, hf, by rw [e]; rfl⟩

structure InBlocks (K : Heap) (bv : V) (r : Nat → List V) : Prop where
  len : ∀ g, lenV Tryz.prog g 22 bv = some (.int .i64 256)
  ex : ∃ p q : Nat → V, (∀ i : Nat, i < 256 → indexAddrV Tryz.prog 22 bv (.int .i64 (i : Int)) = some (p i)) ∧ (∀ i, i < 256 → ∀ G, ldV Tryz.prog 26 (hget (K ++ G)) (p i) = some (q i)) ∧ ∀ i, i < 256 → ∃ fl, q i = .islice (r i) 256 fl
  rows : ∀ i, i < 256 → Row256 (r i)
  refs : bv.refs (fun f _ => Nat.ble K.length f) = false
  cells : bv.cells = some [bv]
  sc : bv.scalar = true
end Go.Proofs.YtafhcdagifopeaaGreatDoor
end
