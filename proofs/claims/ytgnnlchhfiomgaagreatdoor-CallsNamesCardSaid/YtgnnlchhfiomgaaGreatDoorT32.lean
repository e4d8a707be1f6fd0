/- This file holds in one the texts D3, D4, D5, D6; each says at its head what it proves. -/
import Derived.Test.YtgnnlchhfiomgaaGreatDoorT31
set_option linter.unusedSimpArgs false
set_option linter.unusedVariables false
namespace Go.Proofs.YtgnnlchhfiomgaaGreatDoor
section
set_option maxRecDepth 100000
open Go.AM
attribute [local irreducible] U W
theorem Qid {esz n : Nat} {v : V} {cells : List V} (h : Zn esz v cells n) : v.scalar = true := by
 obtain ⟨_, ⟨rfl, _⟩ | ⟨f, rfl⟩⟩ := h <;> rfl
def rep (i : Nat) : List Int := List.replicate i 256
theorem Qm0 (i : Nat) : (rep i).length = i := by simp [rep]
theorem Q8g {n i : Nat} (h : i < n) : (rep n)[i]? = some 256 := by
 unfold rep; rw [List.getElem?_replicate, if_pos h]
theorem Q36 (i : Nat) : rep (i + 1) = rep i ++ [256] := by simp [rep, List.replicate_succ']
def Qew (k i : Nat) : V := if i = 0 then .nS else .gS k 21 (Q3 (rep i)) i 1
def Qgl (bv wv : V) (i : Nat) : AM.Frame := if i = 0 then [(1, .cells [bv, wv]), (2, .cells [.nS, .nS])] else [(1, .cells [bv, wv]), (2, .cells [.nS, .nS]), (21, .grow i)]
theorem Q1y (K : Heap) (bv wv : V) (i : Nat) (hi : i < 256) :
 Zl Tryz.prog (Qz.mt 92) K.length (Qb (K ++ [Qgl bv wv i])) (some 21) 32 32 (Qew K.length i) (.iS [.int .i64 256] 1 true) =
  some (.val (Qew K.length (i + 1)) (some (K.length, 21, .grow (i + 1)))) := by
 have g21 : Qb (K ++ [Qgl bv wv i]) K.length 21 = if i = 0 then none else some (.grow i) := by
  rw [Jq]
  show Qu (Qgl bv wv i) 21 = _
  unfold Qgl; by_cases h : i = 0
  . simp only [h, if_true]; rfl
  . simp only [h, if_false]; rfl
 have sc : ∀ g, Qy g 1 (.iS [.int .i64 256] 1 true) = some ([.int .i64 256], 1) := fun g => rfl
 unfold Qew
 rw [if_neg (Zmi i), Q36]
 by_cases h : i = 0
 . subst h
   simp only [if_true] at g21 ⊢
   rw [Qgh Tryz.underlying32 sz3 by64 zc3 rfl Tryz.underlying32 (sc _) (by decide) (by decide), Qbs rfl rfl g21]
   rfl
 . simp only [h, if_false] at g21 ⊢
   rw [Qfw Tryz.underlying32 sz3 by64 zc3 rfl Tryz.underlying32 (sc _) (by decide) (Qa0 (by omega) (by omega)) rfl rfl g21]
   simp [Q3]
def Xq (r : Nat -> List V) (Z : List V) (i : Nat) : List V := ((List.range i).map r).flatten ++ Z.drop (256 * i)
theorem Qcj {r : Nat -> List V} : ∀ {i : Nat}, (∀ j, j < i -> (r j).length = 256) -> ((List.range i).map r).flatten.length = 256 * i
 | 0, _ => rfl
 | i + 1, h => by
   rw [Zmh, Zme, Zkz, Zky, Qcj (fun j hj => h j (by omega))]
   simp [h i (by omega)]; omega
theorem Qxk (r : Nat -> List V) (Z : List V) : Xq r Z 0 = Z := by simp [Xq]
theorem Qed {r : Nat -> List V} {Z : List V} (hZ : Z.length = 65536) {i : Nat} (hi : i <= 256) (h : ∀ j, j < 256 -> (r j).length = 256) : (Xq r Z i).length = 65536 := by
 rw [Xq, Zky, Qcj (fun j hj => h j (by omega)), Zly, hZ]; omega
theorem Qsj {r : Nat -> List V} {Z : List V} (hZ : Z.length = 65536) {i : Nat} (hi : i < 256) (h : ∀ j, j < 256 -> (r j).length = 256) : splice (Xq r Z i) (256 * i) (r i) = Xq r Z (i + 1) := by
 have hf := Qcj (r := r) (i := i) (fun j hj => h j (by omega))
 unfold splice Xq
 rw [Zmh, Zme, Zkz, List.take_left' hf, List.drop_append, hf, Zlx (by rw [hf, h i hi]; omega), h i hi]
 have e : 256 * i + 256 - 256 * i = 256 := by omega
 rw [e, Zkx]
 have e2 : 256 * i + 256 = 256 * (i + 1) := by omega
 rw [e2]
 simp
theorem Qbj (n : Nat) (x : V) : (zerosN [x] n).length = n := by
 induction n with
 | zero => rfl
 | succ n ih => simp [zerosN, ih]
theorem Q0d (k : Nat) {n i : Nat} (h : i < n) : (Yr k n)[i]? = some (.mS k 20 (256 * i) 256 (some 256) 1) := by simp [Yr, h]
theorem Qxp (k : Nat) : Qk (Yr k 256) = false := by
 show Qk ((List.range (255 + 1)).map fun j => V.mS k 20 (256 * j) 256 (some 256) 1) = false
 rw [List.range_succ_eq_map]; rfl
theorem Q6c {P : Program} {t : TypeId} {g : Get} {cs : List V} {o : Nat} : ldV P t g (.rptr cs o) = Q2 P t cs o := rfl
theorem Q4t {g : Get} {f s o : Nat} {xs c : List V} {fl : Bool} (hc : J4 c) (hg : g f s = some (.cells xs)) (hl : o + 256 <= xs.length) :
 Qa5 Tryz.prog g 26 (.mS f s o 256 (some 256) 1) (.iS c 256 fl) = some (.val (.int .i64 256) (some (f, s, .cells (splice xs o c)))) := by
 have sc : Xo g 1 (.iS c 256 fl) = some (c, 256) := by simp [Xo, Qy, hc.1]
 have tk : c.take (min 256 256 * 1) = c := Zmg (by rw [hc.1]; decide)
 simp only [Qa5, Tryz.underlying26, sz5, sc, Qah, hg, if_true, tk, Qk0 hc.2]
 rw [if_pos ⟨by omega, trivial⟩]
 rfl
theorem Qxu {r : Nat -> List V} {Z : List V} (p : Nat -> Nat -> Bool) (h : ∀ j, j < 256 -> (r j).all Qp6 = true) (hz : ∀ p, Qx p Z = false) : Qx p (Xq r Z 256) = false := by
 have app : ∀ a b : List V, Qx p a = false -> Qx p b = false -> Qx p (a ++ b) = false := by
  intro a b ha hb
  induction a with
  | nil => exact hb
  | cons x a iha => simp only [Qx, Zle, Zl3] at ha ⊢; exact ⟨ha.1, iha ha.2⟩
 have dr : ∀ (l : List V) (m : Nat), Qx p l = false -> Qx p (l.drop m) = false := by
  intro l
  induction l with
  | nil => intro m _; simp [Qx]
  | cons x l ih => intro m h; cases m with
    | zero => exact h
    | succ m => simp only [Qx, Zl3] at h; exact ih m h.2
 have fl : ∀ i, i <= 256 -> Qx p ((List.range i).map r).flatten = false := by
  intro i
  induction i with
  | zero => intro _; rfl
  | succ i ih =>
    intro hi
    rw [Zmh, Zme, Zkz]
    refine app _ _ (ih (by omega)) ?_
    simp only [Zkd, List.map_nil, List.flatten_cons, List.flatten_nil, Zk5]
    exact Qp0 p (h i (by omega))
 exact app _ _ (fl 256 (Zjw _)) (dr _ _ (hz p))
def Qa8 (a : Nat -> Int) (d : Nat -> List V) (i : Nat) : List V := ((List.range i).map fun j => [V.int .i64 (a j), .iS (d j) 256 false]).flatten
theorem Qci (a : Nat -> Int) (d : Nat -> List V) (i : Nat) : Qa8 a d (i + 1) = Qa8 a d i ++ [.int .i64 (a i), .iS (d i) 256 false] := by simp [Qa8, Zmh]
def Y6 (k : Nat) (a : Nat -> Int) (d : Nat -> List V) (i : Nat) : V := if i = 0 then .nS else .gS k 58 (Qa8 a d i) i 2
theorem Qkc (p : Nat -> Nat -> Bool) (a : Nat -> Int) (d : Nat -> List V) : ∀ i, Qx p (Qa8 a d i) = false
 | 0 => rfl
 | i + 1 => by
   rw [Qci]
   have app : ∀ a b : List V, Qx p a = false -> Qx p b = false -> Qx p (a ++ b) = false := by
    intro a b ha hb
    induction a with
    | nil => exact hb
    | cons x a iha => simp only [Qx, Zle, Zl3] at ha ⊢; exact ⟨ha.1, iha ha.2⟩
   exact app _ _ (Qkc p a d i) rfl
theorem Q1l (k : Nat) (a : Nat -> Int) (d : Nat -> List V) (i : Nat) : (Y6 k a d i).refs (fun f s => f == k && [9].contains s) = false := by
 unfold Y6; split
 . rfl
 . simp only [V.refs, Qkc]; simp
def Qih (bv wv g o : V) (i : Nat) : AM.Frame := if i = 0 then [(1, .cells [bv, wv]), (2, .cells [g, o]), (21, .grow 256)] else [(1, .cells [bv, wv]), (2, .cells [g, o]), (21, .grow 256), (58, .grow i)]
def Qqe (bv wv g o : V) (y : List V) (i : Nat) : AM.Frame := if i = 0 then [(1, .cells [bv, wv]), (2, .cells [g, o]), (21, .grow 256)] else [(1, .cells [bv, wv]), (2, .cells [g, o]), (9, .cells y), (21, .grow 256), (58, .grow i)]
theorem Q5a (bv wv g o : V) (y : List V) (i : Nat) : J8 (fun s => [9].contains s) (Qqe bv wv g o y i) = Qih bv wv g o i := by
 unfold Qih Qqe; split <;> rfl
theorem Quj {cs : List V} {n i : Nat} {a : Int} {c : List V} {fl : Bool} (h : i < n) (hl : cs.length = n * 2) (e1 : cs[2 * i]? = some (.int .i64 a)) (e2 : cs[2 * i + 1]? = some (.iS c 256 fl)) :
 Q2 Tryz.prog 136 cs ((i : Int).toNat * 2) = some (.agg [.int .i64 a, .iS c 256 fl]) := by
 have e : (i : Int).toNat * 2 = 2 * i := by omega
 rw [e, Q17, if_pos (by omega)]
 have g1 := Zk2.1 e1
 have g2 := Zk2.1 e2
 obtain ⟨l1, g1⟩ := g1
 obtain ⟨l2, g2⟩ := g2
 rw [Zmf l1, Zlu, Zmf l2, Zlu, List.take_zero, g1, g2]
def Qeg (bv wv g o : V) (y : List V) (i : Nat) : AM.Frame := if i = 0 then [(1, .cells [bv, wv]), (2, .cells [g, o]), (9, .cells y), (21, .grow 256)] else [(1, .cells [bv, wv]), (2, .cells [g, o]), (9, .cells y), (21, .grow 256), (58, .grow i)]
def twF5 (bv wv g o : V) (y : List V) (i : Nat) : AM.Frame := [(1, .cells [bv, wv]), (2, .cells [g, o]), (9, .cells y), (21, .grow 256), (58, .grow (i + 1))]
theorem byW : byt Tryz.prog 136 = some 32 := by kernel_rfl
theorem Q0s (K : Heap) (bv wv g : V) (y : List V) (a : Nat -> Int) (d : Nat -> List V) (G : Heap) (i : Nat) (hi : i < 4096) :
 Zl Tryz.prog (Qz.mt 92) K.length (Qb (K ++ Qeg bv wv g (Y6 K.length a d i) y i :: G)) (some 58) 23 23 (Y6 K.length a d i) (.iS [.int .i64 (a i), .iS (d i) 256 false] 1 true) =
  some (.val (Y6 K.length a d (i + 1)) (some (K.length, 58, .grow (i + 1)))) := by
 have g58 : Qb (K ++ Qeg bv wv g (Y6 K.length a d i) y i :: G) K.length 58 = if i = 0 then none else some (.grow i) := by
  rw [Jq]
  show Qu (Qeg bv wv g _ y i) 58 = _
  unfold Qeg; by_cases h : i = 0
  . simp only [h, if_true]; rfl
  . simp only [h, if_false]; rfl
 have sc : ∀ g, Qy g 2 (.iS [.int .i64 (a i), .iS (d i) 256 false] 1 true) = some ([.int .i64 (a i), .iS (d i) 256 false], 1) := fun g => rfl
 unfold Y6 at g58 ⊢
 rw [if_neg (Zmi i), Qci]
 by_cases h : i = 0
 . subst h
   simp only [if_true] at g58 ⊢
   rw [Qgh Tryz.underlying23 Qmw byW Qyh rfl Tryz.underlying23 (sc _) (by decide) (by decide), Qbs rfl rfl g58]
   rfl
 . simp only [h, if_false] at g58 ⊢
   rw [Qfw Tryz.underlying23 Qmw byW Qyh rfl Tryz.underlying23 (sc _) (by decide) (Qa0 (by omega) (by omega)) rfl rfl g58]
theorem Qqp {P : Program} {F : Func} {t : List V} {H : Heap} {a : Nat} {T : TypeId} {f s o : Nat} {xs : List V} {v : V} (hF : F.results.toList = [.cell a T]) (ht : t.getD a .bad = .ptr f s o) (hg : Qb H f s = some (.cells xs)) (hr : Q2 P T xs o = some v) : Qa3 P F t H = some v := by
 have h1 : Bn P t H (.cell a T) = some v := by
  show (match t.getD a .bad with
   | .ptr f s o => (match Qb H f s with
     | some (.cells xs) => Q2 P T xs o
     | _ => none)
   | _ => none) = _
  rw [ht]
  show (match Qb H f s with
   | some (.cells xs) => Q2 P T xs o
   | _ => none) = _
  rw [hg]; exact hr
 have h2 : Qe6 P t H [.cell a T] = some [v] := by
  show (match Bn P t H (.cell a T), (some [] : Option (List V)) with
   | some v, some vs => some (v :: vs)
   | _, _ => none) = _
  rw [h1]
 unfold Qa3
 rw [hF, h2]
theorem Qzi (K : Heap) (hw : WF K) (bv wv : V) (r : Nat -> List V) (hb : Ql2 K bv r) (cs : List V) (n : Nat) (hv : Zn 2 wv cs n) (hn : n <= 4096) (a : Nat -> Int) (d : Nat -> List V)
 (hwait : ∀ j, j < n -> cs[2 * j]? = some (.int .i64 (a j)) /\ ∃ fl, cs[2 * j + 1]? = some (.iS (d j) 256 fl)) (hdata : ∀ j, j < n -> J4 (d j)) :
 CW Tryz.prog Qz 92 [.agg [bv, wv]] K fun rr K' => rr = .ret (.agg [.gS (K.length + 1) 33 (Yr (K.length + 1) 256) 256 1, Y6 K.length a d n]) /\
  K' = K ++ [Qih bv wv (.gS (K.length + 1) 33 (Yr (K.length + 1) 256) 256 1) (Y6 K.length a d n) n, [(20, .cells (Xq r (zerosN [.int .u8 0] 65536) 256)), (33, .grow 256)]] := by
 generalize hZ : zerosN [V.int .u8 0] 65536 = Z
 refine Xr Tryz.func92 rfl ?_
 obtain ⟨p, q, hp, hq, hfl⟩ := hb.ex
 have len := hb.len
 have lw := hv.len Tryz.underlying23
 have wsc : wv.scalar = true := Qid hv
 simp only [Qn, Qf, Qg, Ql, Qa, Qc, nov, gd, rho, Qe, wr, Nat.reduceAdd, Nat.reduceSub, if_true, if_false, reduceIte, reduceCtorEq, Qi, Int.reduceBEq, Int.reduceBNe, Int.reduceLT, Int.reduceLE, ↓Qh, Tryz.ntmps92, ta, new, Qm9, Qu, Qs, Nat.reduceLT, Nat.reduceEqDiff, splice, zerosN, Qo, Qq, Qk, V.pure, Nat.reduceMul, Nat.reduceLeDiff, Qr, hb.sc, wsc, len]
 refine W.ul ?_
 refine W.loopS (kt := [1, 2, 3, 11, 12, 13]) rfl (fun i : Nat => Q2z (.ptr K.length 1 0) (.ptr K.length 2 0) (Qew K.length i) bv (.int .i64 256) (.int .i64 i)) (fun i => K ++ [Qgl bv wv i]) (fun i => i <= 256) (fun i => 256 - i) ?_ 0 (by omega) rfl rfl
 rintro i hi
 simp only [Q2z]
 by_cases h : i < 256
 . have c1 : decide ((i : Int) < 256) = true := Zmo (by omega)
   have w1 := Bw (i := i) (by omega)
   obtain ⟨fl, hfi⟩ := hfl i h
   have hqi := fun G => hq i h G
   rw [hfi] at hqi
   have ap : Zl Tryz.prog (Qz.mt 92) K.length (Qb (K ++ [Qgl bv wv i])) (some 21) 32 32 (Qew K.length i) (.iS [.int .i64 ((256 : Nat) : Int)] 1 true) = some (.val (Qew K.length (i + 1)) (some (K.length, 21, .grow (i + 1)))) := Q1y K bv wv i h
   have mt20 : Qz.mt 92 20 = false := rfl
   have s21 : hset (K ++ [Qgl bv wv i]) K.length 21 (.grow (i + 1)) = K ++ [Qgl bv wv (i + 1)] := by
    rw [Kr]; show K ++ [Qs (Qgl bv wv i) 21 _] = _
    unfold Qgl; rw [if_neg (Zmi i)]; split <;> rfl
   simp only [Qn, Qf, Qg, Ql, Qa, Qc, nov, gd, rho, Qe, wr, Nat.reduceAdd, Nat.reduceSub, if_true, if_false, reduceIte, reduceCtorEq, Qi, Int.reduceBEq, Int.reduceBNe, Int.reduceLT, Int.reduceLE, ↓Qh, c1, hp i h, hqi, ta, splice, zerosN, Qo, Qq, Qk, V.pure, Nat.reduceMul, Nat.reduceLeDiff, Qr, w1, mt20, Yg, ap, s21, Tryz.underlying32]
   exact W.done ⟨i + 1, rfl, rfl, by omega, by omega⟩
 . have c1 : decide ((i : Int) < 256) = false := Zmp (by omega)
   have hi2 : i = 256 := by omega
   subst hi2
   simp only [Qn, Qf, Qg, Ql, Qa, Qc, nov, gd, rho, Qe, wr, Nat.reduceAdd, Nat.reduceSub, if_true, if_false, reduceIte, reduceCtorEq, Qi, Int.reduceBEq, Int.reduceBNe, Int.reduceLT, Int.reduceLE, ↓Qh, c1]
   refine W.done ?_
   have hwF : WF (K ++ [Qgl bv wv 256]) := by
    refine WF.app hw ?_
    have b1 : bv.refs (fun f _ => Nat.ble (K.length + 1) f) = false := Qam (Qm8 (Nat.le_succ _)) bv hb.refs
    have b2 : wv.refs (fun f _ => Nat.ble (K.length + 1) f) = false := hv.noRefs _
    show Zi (fun f _ => Nat.ble (K.length + 1) f) [[(1, .cells [bv, wv]), (2, .cells [.nS, .nS]), (21, .grow 256)]] = true
    simp only [Zi, Zo, O.refs, Qx, V.refs, b1, b2]
    rfl
   obtain ⟨rr, KK, hcall, rfl, rfl⟩ := Q2m (K ++ [Qgl bv wv 256]) hwF (.iS (Q3 (rep 256)) 256 false) (rep 256) (Qm0 256) (fun i hi => Q8g hi) (by
    have := Bk.mk (rep 256) false
    rwa [Qm0] at this)
   have hk1 : (K ++ [Qgl bv wv 256]).length = K.length + 1 := by simp
   have hcall' : callOp Qz (Q5 Tryz.prog Qz) 92 K.length (some 24) 166 [Qew K.length 256] (K ++ [Qgl bv wv 256]) =
    some (.ret (.gS (K.length + 1) 33 (Yr (K.length + 1) 256) 256 1), K ++ [Qgl bv wv 256, [(20, .cells (zerosN [.int .u8 0] 65536)), (33, .grow 256)]]) := by
    refine Qk1 rfl rfl rfl (args' := [.iS (Q3 (rep 256)) 256 false]) ?_ ?_
    . have e : Qew K.length 256 = .gS K.length 21 (Q3 (rep 256)) 256 1 := rfl
      rw [e]
      have f1 : frz (fun _ _ => none) 12 (.gS K.length 21 (Q3 (rep 256)) 256 1) = (Zb (frz (fun _ _ => none) 11) (Q3 (rep 256))).map fun cs => .iS cs 256 false := rfl
      show Zb (frz (fun _ _ => none) 12) _ = _
      simp only [Zb, f1, Qet (fun _ _ => none) 10, Zjs]
    . rw [hk1] at hcall
      rw [hcall]
      simp
   rw [hZ] at hcall'
   have hF : Qgl bv wv 256 = [(1, .cells [bv, wv]), (2, .cells [.nS, .nS]), (21, .grow 256)] := rfl
   rw [hF] at hcall' ⊢
   simp only [Qn, Qf, Qg, Ql, Qa, Qc, nov, gd, rho, Qe, wr, Nat.reduceAdd, Nat.reduceSub, if_true, if_false, reduceIte, reduceCtorEq, Qi, Int.reduceBEq, Int.reduceBNe, Int.reduceLT, Int.reduceLE, ↓Qh, hcall', ta, new, Qm9, Qu, Qs, Nat.reduceLT, Nat.reduceEqDiff, splice, zerosN, Qo, Qq, Qk, V.pure, Nat.reduceMul, Nat.reduceLeDiff, Qr, hb.sc, wsc, len]
   have hZl : Z.length = 65536 := by rw [<- hZ]; exact Qbj _ _
   have hr : ∀ j, j < 256 -> (r j).length = 256 := fun j hj => (hb.rows j hj).1
   refine W.ul ?_
   refine W.loopS (kt := [1, 2, 27, 28, 29]) rfl (fun i : Nat => Q5b (.ptr K.length 1 0) (.ptr K.length 2 0) bv (.int .i64 256) (.int .i64 i))
    (fun i => K ++ [[(1, .cells [bv, wv]), (2, .cells [.gS (K.length + 1) 33 (Yr (K.length + 1) 256) 256 1, .nS]), (21, .grow 256)], [(20, .cells (Xq r Z i)), (33, .grow 256)]]) (fun i => i <= 256) (fun i => 256 - i) ?_ 0 (by omega) rfl (by rw [Qxk])
   rintro i hi
   simp only [Q5b]
   by_cases h : i < 256
   . have c1 : decide ((i : Int) < 256) = true := Zmo (by omega)
     have w1 := Bw (i := i) (by omega)
     obtain ⟨fl, hfi⟩ := hfl i h
     have hqi := fun G => hq i h G
     rw [hfi] at hqi
     have at2 := at_r (P := Tryz.prog) (u := 22) (k := .i64) Tryz.underlying22 Qje (f := K.length + 1) (s := 33) (len := 256) (i := (i : Int)) (Qxp (K.length + 1)) (by omega) (by omega)
     have gr : (Yr (K.length + 1) 256)[(i : Int).toNat * 1]? = some (.mS (K.length + 1) 20 (256 * i) 256 (some 256) 1) := by
      have e : (i : Int).toNat * 1 = i := by omega
      rw [e]; exact Q0d _ h
     have hlen := Qed (r := r) hZl hi hr
     have cp := fun (g : Get) (hg : g (K.length + 1) 20 = some (.cells (Xq r Z i))) => Q4t (fl := fl) (hb.rows i h) hg (o := 256 * i) (by rw [hlen]; omega)
     have sp := Qsj hZl h hr
     rw [sp] at cp
     generalize hD : Xq r Z i = D at cp ⊢
     generalize hD2 : Xq r Z (i + 1) = D2 at cp ⊢
     have cp' := cp (Qb (K ++ [[(1, .cells [bv, wv]), (2, .cells [.gS (K.length + 1) 33 (Yr (K.length + 1) 256) 256 1, .nS]), (21, .grow 256)], [(20, .cells D), (33, .grow 256)]])) (by rw [Qnd]; rfl)
     generalize hR : Yr (K.length + 1) 256 = R at at2 gr cp' ⊢
     simp only [Qn, Qf, Qg, Ql, Qa, Qc, nov, gd, rho, Qe, wr, Nat.reduceAdd, Nat.reduceSub, if_true, if_false, reduceIte, reduceCtorEq, Qi, Int.reduceBEq, Int.reduceBNe, Int.reduceLT, Int.reduceLE, ↓Qh, c1, hp i h, hqi, ta, new, Qm9, Qu, Qs, Nat.reduceLT, Nat.reduceEqDiff, w1, at2, Q6c, gr, Qsz, cp']
     subst hD2
     exact W.done ⟨i + 1, rfl, rfl, by omega, by omega⟩
   have c1 : decide ((i : Int) < 256) = false := Zmp (by omega)
   have hi2 : i = 256 := by omega
   subst hi2
   have hDr : ∀ p : Nat -> Nat -> Bool, Qx p (Xq r Z 256) = false := fun p => Qxu p (fun j hj => (hb.rows j hj).2) (by rw [<- hZ]; exact fun q => Qkw _ _ _ rfl)
   generalize hD : Xq r Z 256 = D at hDr ⊢
   have hRr : ∀ p : Nat -> Nat -> Bool, p (K.length + 1) 20 = false -> Qx p (Yr (K.length + 1) 256) = false := fun p hp => Qnm _ _ _ hp
   generalize hR : Yr (K.length + 1) 256 = R at hRr ⊢
   simp only [Qn, Qf, Qg, Ql, Qa, Qc, nov, gd, rho, Qe, wr, Nat.reduceAdd, Nat.reduceSub, if_true, if_false, reduceIte, reduceCtorEq, Qi, Int.reduceBEq, Int.reduceBNe, Int.reduceLT, Int.reduceLE, ↓Qh, c1]
   refine W.done ?_
   simp only [Qn, Qf, Qg, Ql, Qa, Qc, nov, gd, rho, Qe, wr, Nat.reduceAdd, Nat.reduceSub, if_true, if_false, reduceIte, reduceCtorEq, Qi, Int.reduceBEq, Int.reduceBNe, Int.reduceLT, Int.reduceLE, ↓Qh, ta, new, Qm9, Qu, Qs, Nat.reduceLT, Nat.reduceEqDiff, splice, zerosN, Qo, Qq, Qk, V.pure, Nat.reduceMul, Nat.reduceLeDiff, Qr, hb.sc, wsc, len, lw]
   refine W.ul ?_
   refine W.loop (fun (i : Nat) t H => ∃ y : List V, Bu [2, 43, 44, 45] t 0 = Qr5 (.ptr K.length 2 0) wv (.int .i64 n) (.int .i64 i) /\ i <= n /\ H = K ++ [Qqe bv wv (.gS (K.length + 1) 33 R 256 1) (Y6 K.length a d i) y i, [(20, .cells D), (33, .grow 256)]] /\ Qx (fun f s => f == K.length && [9].contains s) y = false)
    (fun i => n - i) ?_ 0 ⟨[], rfl, by omega, rfl, rfl⟩ rfl
   rintro i t H ⟨y, ht, hi, rfl, hy⟩
   have hd : (K ++ [Qqe bv wv (.gS (K.length + 1) 33 R 256 1) (Y6 K.length a d i) y i, [(20, .cells D), (33, .grow 256)]]).modify K.length (J8 fun s => [9].contains s) = K ++ [Qih bv wv (.gS (K.length + 1) 33 R 256 1) (Y6 K.length a d i) i, [(20, .cells D), (33, .grow 256)]] := by
    have := Qbx (J8 fun s => [9].contains s) K [Qqe bv wv (.gS (K.length + 1) 33 R 256 1) (Y6 K.length a d i) y i, [(20, .cells D), (33, .grow 256)]] 0
    exact this.trans (by rw [<- Q5a bv wv _ _ y i]; rfl)
   have bvr : bv.refs (fun f s => f == K.length && [9].contains s) = false := Qam (fun f s h => by simp at h; simp; omega) bv hb.refs
   have wvr : wv.refs (fun f s => f == K.length && [9].contains s) = false := hv.noRefs _
   have Rr := hRr (fun f s => f == K.length && [9].contains s) (by simp)
   have Dr := hDr (fun f s => f == K.length && [9].contains s)
   have or_ := Q1l K.length a d i
   refine ⟨_, _, Ye (kt := [2, 43, 44, 45]) (ds := [9]) rfl ?_ ?_, ?_⟩
   . rw [ht]
     simp only [Qr5, Qx, V.refs, wvr]; simp
   . rw [hd, Xy, Qfs hw (fun f s h => by simp at h; omega)]
     unfold Qih
     split <;> simp only [Zi, Zo, O.refs, Qx, V.refs, bvr, wvr, Rr, Dr, or_] <;> simp
   rw [ht, hd]
   simp only [Qr5]
   by_cases h : i < n
   . have c1 : decide ((i : Int) < n) = true := Zmo (by omega)
     have w1 := Bw (i := i) (by omega)
     obtain ⟨e1, fl, e2⟩ := hwait i h
     have at1 := hv.at (k := .i64) Tryz.underlying23 Qmw (by decide) (i := (i : Int)) (by omega) (by omega)
     have ldw := Quj h hv.1 e1 e2
     obtain ⟨m, rfl, hm⟩ := (Q5i (d i) fl (hdata i h)).op (by rfl) rfl
     have hm' : ∀ s H, _ := fun s H => hm 92 K.length s H rfl
     have n9 : Qb (K ++ [Qih bv wv (.gS (K.length + 1) 33 R 256 1) (Y6 K.length a d i) i, [(20, .cells D), (33, .grow 256)]]) K.length 9 = none := by
      rw [Jq]; show Qu (Qih bv wv _ _ i) 9 = none; unfold Qih; split <;> rfl
     have s9 : ∀ x, hset (K ++ [Qih bv wv (.gS (K.length + 1) 33 R 256 1) (Y6 K.length a d i) i, [(20, .cells D), (33, .grow 256)]]) K.length 9 (.cells x) = K ++ [Qeg bv wv (.gS (K.length + 1) 33 R 256 1) (Y6 K.length a d i) x i, [(20, .cells D), (33, .grow 256)]] := fun x => by
      rw [Kr]; show K ++ [Qs (Qih bv wv _ _ i) 9 _, _] = _; unfold Qih Qeg; split <;> rfl
     have s9' : ∀ x z, hset (K ++ [Qeg bv wv (.gS (K.length + 1) 33 R 256 1) (Y6 K.length a d i) x i, [(20, .cells D), (33, .grow 256)]]) K.length 9 (.cells z) = K ++ [Qeg bv wv (.gS (K.length + 1) 33 R 256 1) (Y6 K.length a d i) z i, [(20, .cells D), (33, .grow 256)]] := fun x z => by
      rw [Kr]; show K ++ [Qs (Qeg bv wv _ _ x i) 9 _, _] = _; unfold Qeg; split <;> rfl
     have g9 : ∀ x, Qb (K ++ [Qeg bv wv (.gS (K.length + 1) 33 R 256 1) (Y6 K.length a d i) x i, [(20, .cells D), (33, .grow 256)]]) K.length 9 = some (.cells x) := fun x => by
      rw [Jq]; show Qu (Qeg bv wv _ _ x i) 9 = _; unfold Qeg; split <;> rfl
     have g2 : ∀ x, Qb (K ++ [Qeg bv wv (.gS (K.length + 1) 33 R 256 1) (Y6 K.length a d i) x i, [(20, .cells D), (33, .grow 256)]]) K.length 2 = some (.cells [.gS (K.length + 1) 33 R 256 1, Y6 K.length a d i]) := fun x => by
      rw [Jq]; show Qu (Qeg bv wv _ _ x i) 2 = _; unfold Qeg; split <;> rfl
     have ap := Q0s K bv wv (.gS (K.length + 1) 33 R 256 1) [.int .i64 (a i), .iS (d i) 256 fl] a d [[(20, .cells D), (33, .grow 256)]] i (by omega)
     have s58 : ∀ x, hset (K ++ [Qeg bv wv (.gS (K.length + 1) 33 R 256 1) (Y6 K.length a d i) x i, [(20, .cells D), (33, .grow 256)]]) K.length 58 (.grow (i + 1)) = K ++ [twF5 bv wv (.gS (K.length + 1) 33 R 256 1) (Y6 K.length a d i) x i, [(20, .cells D), (33, .grow 256)]] := fun x => by
      rw [Kr]; show K ++ [Qs (Qeg bv wv _ _ x i) 58 _, _] = _; unfold Qeg twF5; split <;> rfl
     have g2' : ∀ x, Qb (K ++ [twF5 bv wv (.gS (K.length + 1) 33 R 256 1) (Y6 K.length a d i) x i, [(20, .cells D), (33, .grow 256)]]) K.length 2 = some (.cells [.gS (K.length + 1) 33 R 256 1, Y6 K.length a d i]) := fun x => by
      rw [Jq]; rfl
     have s2 : ∀ x o, hset (K ++ [twF5 bv wv (.gS (K.length + 1) 33 R 256 1) (Y6 K.length a d i) x i, [(20, .cells D), (33, .grow 256)]]) K.length 2 (.cells [.gS (K.length + 1) 33 R 256 1, o]) = K ++ [Qqe bv wv (.gS (K.length + 1) 33 R 256 1) o x (i + 1), [(20, .cells D), (33, .grow 256)]] := fun x o => by
      rw [Kr]; rfl
     have mt57 : Qz.mt 92 57 = false := rfl
     have scw : (Y6 K.length a d (i + 1)).scalar = true := by unfold Y6; rw [if_neg (Zmi i)]; rfl
     have scw0 : (Y6 K.length a d i).scalar = true := by unfold Y6; split <;> rfl
     have wcl : (Y6 K.length a d (i + 1)).cells = some [Y6 K.length a d (i + 1)] := by unfold Y6; rw [if_neg (Zmi i)]; rfl
     simp only [Qn, Qf, Qg, Ql, Qa, Qc, nov, gd, rho, Qe, wr, Nat.reduceAdd, Nat.reduceSub, if_true, if_false, reduceIte, reduceCtorEq, Qi, Int.reduceBEq, Int.reduceBNe, Int.reduceLT, Int.reduceLE, ↓Qh, c1, at1, ldw, ta, splice, zerosN, Qo, Qq, Qk, V.pure, Nat.reduceMul, Nat.reduceLeDiff, Qr, w1, wcl, new, n9, s9, s9', g9, g2, hm', mt57, Yg, ap, s58, g2', s2, scw, scw0, Tryz.underlying23]
     refine W.opsK (by kernel_rfl) ?_
     simp only [Qn, Qf, Qg, Ql, Qa, Qc, nov, gd, rho, Qe, wr, Nat.reduceAdd, Nat.reduceSub, if_true, if_false, reduceIte, reduceCtorEq, Qi, Int.reduceBEq, Int.reduceBNe, Int.reduceLT, Int.reduceLE, ↓Qh, w1]
     exact W.done ⟨i + 1, ⟨_, rfl, by omega, rfl, by simp [Qx, V.refs]⟩, by omega⟩
   . have c1 : decide ((i : Int) < n) = false := Zmp (by omega)
     have hi2 : i = n := by omega
     subst hi2
     simp only [Qn, Qf, Qg, Ql, Qa, Qc, nov, gd, rho, Qe, wr, Nat.reduceAdd, Nat.reduceSub, if_true, if_false, reduceIte, reduceCtorEq, Qi, Int.reduceBEq, Int.reduceBNe, Int.reduceLT, Int.reduceLE, ↓Qh, c1]
     refine W.done ?_
     simp only [Qn, Qf, Qg, Ql, Qa, Qc, nov, gd, rho, Qe, wr, Nat.reduceAdd, Nat.reduceSub, if_true, if_false, reduceIte, reduceCtorEq, Qi, Int.reduceBEq, Int.reduceBNe, Int.reduceLT, Int.reduceLE, ↓Qh]
     refine W.done (End.ret (v := .agg [.gS (K.length + 1) 33 R 256 1, Y6 K.length a d i]) ?_ ?_)
     . refine Qqp (xs := [.gS (K.length + 1) 33 R 256 1, Y6 K.length a d i]) rfl rfl ?_ (by rw [rd25]; rfl)
       rw [Jq]; show Qu (Qih bv wv _ _ i) 2 = _; unfold Qih; split <;> rfl
     . rw [Qak (by simp [V.refs, Qx])]
       exact ⟨rfl, by rw [<- hR, <- hD]⟩
end
section
set_option maxRecDepth 100000
open Go.AM
attribute [local irreducible] U W
def encD (r : Nat -> List V) (a : Nat -> Int) (d : Nat -> List V) (n : Nat) : V :=
 .agg [.iS ((List.range 256).map fun j => .iS (r j) 256 true) 256 false, if n = 0 then .nS else .iS (Qa8 a d n) n false]
theorem Q1z {r : Nat -> List V} {Z : List V} (h : ∀ j, j < 256 -> (r j).length = 256) {i : Nat} (hi : i < 256) : ((Xq r Z 256).drop (256 * i)).take 256 = r i := by
 have key : ∀ m, m <= 256 -> i < m -> ∀ T : List V, ((((List.range m).map r).flatten ++ T).drop (256 * i)).take 256 = r i := by
  intro m
  induction m with
  | zero => intro _ h; omega
  | succ m ih =>
    intro hm him T
    rw [Zmh, Zme, Zkz, Zmd]
    by_cases e : i = m
    . subst e
      have hf := Qcj (r := r) (i := i) (fun j hj => h j (by omega))
      rw [List.drop_append, hf, Nat.sub_self, Zlx (by rw [hf]; exact Zjw _)]
      simp only [Zkd, List.map_nil, List.flatten_cons, List.flatten_nil, Zk5, Zlh, List.drop_zero]
      exact List.take_left' (h i (by omega))
    . exact ih (by omega) (by omega) _
 exact key 256 (Zjw _) hi _
theorem Qk7 (K : Heap) (rv : List V) (fl : Bool) (r : Nat -> List V) (hl : rv.length = 256) (hr : ∀ i, i < 256 -> ∃ f, rv[i]? = some (.iS (r i) 256 f)) (hrow : ∀ i, i < 256 -> J4 (r i)) : Ql2 K (.iS rv 256 fl) r := by
 have hs : Zn 1 (.iS rv 256 fl) rv 256 := Zn.mk (by rw [hl])
 refine ⟨fun g => hs.len Tryz.underlying22 g, ⟨fun i => .iptr rv i, fun i => rv.getD i .bad, fun i hi => ?_, fun i hi G => ?_, fun i hi => ?_⟩, hrow, rfl, rfl, rfl⟩
 . have := hs.at (k := .i64) Tryz.underlying22 Qje (by decide) (i := (i : Int)) (by omega) (by omega)
   rw [this]
   have e : (i : Int).toNat * 1 = i := by omega
   rw [e]
 . obtain ⟨f, hf⟩ := hr i hi
   show Q2 Tryz.prog 26 rv i = _
   rw [rd26, hf]
   simp [List.getD, hf]
 . obtain ⟨f, hf⟩ := hr i hi
   exact ⟨f, by simp [List.getD, hf]⟩
theorem Quz {g : Get} {n : Nat} {f h : Nat -> V} : ∀ (l : List Nat), (∀ j ∈ l, frz g n (f j) = some (h j)) -> Zb (frz g n) (l.map f) = some (l.map h)
 | [], _ => rfl
 | j :: l, e => by
   simp only [Zkd, Zb, e j (by simp), Quz l (fun k hk => e k (by simp [hk]))]
theorem Qll (g : Get) (m : Nat) (a : Nat -> Int) (d : Nat -> List V) : ∀ n, Zb (frz g (m + 1)) (Qa8 a d n) = some (Qa8 a d n)
 | 0 => rfl
 | n + 1 => by
   have app : ∀ (l k l' k' : List V), Zb (frz g (m + 1)) l = some l' -> Zb (frz g (m + 1)) k = some k' -> Zb (frz g (m + 1)) (l ++ k) = some (l' ++ k') := by
    intro l
    induction l with
    | nil => intro k l' k' h1 h2; cases h1; exact h2
    | cons x l ih =>
      intro k l' k' h1 h2
      simp only [Zb, Zle] at h1 ⊢
      cases hx : frz g (m + 1) x with
      | none => rw [hx] at h1; cases h1
      | some y =>
        rw [hx] at h1
        cases hl : Zb (frz g (m + 1)) l with
        | none => rw [hl] at h1; cases h1
        | some ys => rw [hl] at h1; cases h1; rw [ih k ys k' hl h2]; rfl
   rw [Qci]
   exact app _ _ _ _ (Qll g m a d n) rfl
theorem Qln (k : Nat) (H : Heap) (r : Nat -> List V) (Z : List V) (a : Nat -> Int) (d : Nat -> List V) (n : Nat) (hrow : ∀ i, i < 256 -> J4 (r i)) (hZ : Z.length = 65536) (hg : Qb H (k + 1) 20 = some (.cells (Xq r Z 256))) :
 frz (Qb H) depth (.agg [.gS (k + 1) 33 (Yr (k + 1) 256) 256 1, Y6 k a d n]) = some (encD r a d n) := by
 have hr : ∀ j, j < 256 -> (r j).length = 256 := fun j hj => (hrow j hj).1
 have hl := Qed (r := r) hZ (Zjw 256) hr
 have row : ∀ j ∈ List.range 256, frz (Qb H) 10 (.mS (k + 1) 20 (256 * j) 256 (some 256) 1) = some (.iS (r j) 256 true) := by
  intro j hj
  have hj' : j < 256 := Zlm.1 hj
  have e : ((Xq r Z 256).drop (256 * j)).take (256 * 1) = r j := Q1z hr hj'
  have := Qi8 (g := Qb H) (f := k + 1) (s := 20) (o := 256 * j) (len := 256) (esz := 1) (cap := some 256) (xs := Xq r Z 256) (m := 8) hg (by rw [hl]; omega) (by rw [e]; exact Ql9 _ _ (hrow j hj').2)
  rw [e] at this
  exact this
 have rows := Quz (List.range 256) row
 have g1 : frz (Qb H) 11 (.gS (k + 1) 33 (Yr (k + 1) 256) 256 1) = some (.iS ((List.range 256).map fun j => .iS (r j) 256 true) 256 false) := by
  have e : frz (Qb H) 11 (.gS (k + 1) 33 (Yr (k + 1) 256) 256 1) = (Zb (frz (Qb H) 10) (Yr (k + 1) 256)).map fun cs => .iS cs 256 false := rfl
  rw [e]
  unfold Yr
  rw [rows]; rfl
 have g2 : frz (Qb H) 11 (Y6 k a d n) = some (if n = 0 then .nS else .iS (Qa8 a d n) n false) := by
  unfold Y6
  by_cases h : n = 0
  . simp only [h, if_true]; rfl
  . simp only [h, if_false]
    have e : frz (Qb H) 11 (.gS k 58 (Qa8 a d n) n 2) = (Zb (frz (Qb H) 10) (Qa8 a d n)).map fun cs => .iS cs n false := rfl
    rw [e, Qll]; rfl
 have e : frz (Qb H) depth (.agg [.gS (k + 1) 33 (Yr (k + 1) 256) 256 1, Y6 k a d n]) = (Zb (frz (Qb H) 11) [.gS (k + 1) 33 (Yr (k + 1) 256) 256 1, Y6 k a d n]).map .agg := rfl
 rw [e]
 simp only [Zb, g1, g2, Zjs]
 rfl
theorem Q7f (rv : List V) (fl : Bool) (r : Nat -> List V) (hl : rv.length = 256) (hr : ∀ i, i < 256 -> ∃ f, rv[i]? = some (.iS (r i) 256 f)) (hrow : ∀ i, i < 256 -> J4 (r i)) (wv : V) (cs : List V) (n : Nat) (hv : Zn 2 wv cs n) (hn : n <= 4096) (a : Nat -> Int) (d : Nat -> List V)
 (hwait : ∀ j, j < n -> cs[2 * j]? = some (.int .i64 (a j)) /\ ∃ fl, cs[2 * j + 1]? = some (.iS (d j) 256 fl)) (hdata : ∀ j, j < n -> J4 (d j)) :
 Fz Tryz.prog Qz 92 [.agg [.iS rv 256 fl, wv]] fun x => x = encD r a d n := by
 refine Fz.of_cw ((Qzi [] WF.nil _ wv r (Qk7 [] rv fl r hl hr hrow) cs n hv hn a d hwait hdata).mono ?_)
 rintro rr H' ⟨rfl, rfl⟩
 refine ⟨_, rfl, _, ?_, rfl⟩
 exact Qln 0 _ r (zerosN [.int .u8 0] 65536) a d n hrow (Qbj _ _) rfl
end
section
set_option maxRecDepth 100000
open Go.AM
attribute [local irreducible] U W
theorem Q24 (a : Int) (h0 : 0 <= a) (h1 : a < 256) : Fz Tryz.prog Qz 160 [.int .i64 a] fun x => x = .bool true := by
 refine Jt Tryz.func160 rfl ?_
 have cv : ∀ g, convertV Tryz.prog g 3 211 (.int .i64 a) = some (.val (.int .u64 a) none) := fun g => by
  have w : (IntKind.u64).wrap a = a := by
   simp only [IntKind.wrap, IntKind.bits, IntKind.signed, Zmc, Zjv, if_false]; omega
  simp only [convertV, Tryz.underlying3, Tryz.underlying211, w]
 have c1 : decide (a < 256) = true := Zmo h1
 simp only [Qn, Qf, Qg, Ql, Qa, Qc, nov, gd, rho, Qe, wr, Nat.reduceAdd, Nat.reduceSub, if_true, if_false, reduceIte, reduceCtorEq, Qi, Int.reduceBEq, Int.reduceBNe, Int.reduceLT, Int.reduceLE, ↓Qh, Tryz.ntmps160, cv, c1]
 exact W.done (Zu.ret rfl rfl rfl)
theorem Q42 (rv : List V) (fl : Bool) (r : Nat -> List V) (hl : rv.length = 256) (hr : ∀ i, i < 256 -> ∃ f, rv[i]? = some (.iS (r i) 256 f)) (wv : V) (cs : List V) (n : Nat) (hv : Zn 2 wv cs n) (hn : n <= 4096) (a : Nat -> Int) (d : Nat -> List V)
 (hwait : ∀ j, j < n -> cs[2 * j]? = some (.int .i64 (a j)) /\ ∃ fl, cs[2 * j + 1]? = some (.iS (d j) 256 fl)) (ha : ∀ j, j < n -> 0 <= a j /\ a j < 256) :
 CW Tryz.prog Qz 79 [.agg [.iS rv 256 fl, wv]] [] fun x _ => x = .ret (.int .i64 0) := by
 refine Xr Tryz.func79 rfl ?_
 have hs : Zn 1 (.iS rv 256 fl) rv 256 := Zn.mk (by rw [hl])
 have lw := hv.len Tryz.underlying23
 have wsc : wv.scalar = true := Qid hv
 have c4 : decide ((n : Int) <= 4096) = true := Zmo (by omega)
 have e256 : (((256 : Nat) : Int) == 256) = true := rfl
 have ldr : ∀ i : Nat, i < 256 -> ∃ f, ∀ g, ldV Tryz.prog 26 g (.iptr rv ((i : Int).toNat * 1)) = some (.iS (r i) 256 f) := fun i hi => by
  obtain ⟨f, hf⟩ := hr i hi
  refine ⟨f, fun g => ?_⟩
  have e : (i : Int).toNat * 1 = i := by omega
  rw [e]
  show Q2 Tryz.prog 26 rv i = _
  rw [rd26, hf]
 simp only [Qn, Qf, Qg, Ql, Qa, Qc, nov, gd, rho, Qe, wr, Nat.reduceAdd, Nat.reduceSub, if_true, if_false, reduceIte, reduceCtorEq, Qi, Int.reduceBEq, Int.reduceBNe, Int.reduceLT, Int.reduceLE, ↓Qh, Tryz.ntmps79, ta, new, Qb, hset, Qu, Qs, Qp, Nat.reduceLT, Nat.reduceEqDiff, splice, zerosN, Qo, Qq, Qk, V.pure, Nat.reduceMul, Nat.reduceLeDiff, Qr, wsc, lw, c4, e256]
 refine W.ul ?_
 refine W.loopS (kt := [1, 3, 19, 20, 21]) rfl (fun i : Nat => Qrd (.ptr 0 1 0) (.bool true) (.iS rv 256 fl) (.int .i64 ((256 : Nat) : Int)) (.int .i64 i)) (fun i => [[(1, .cells [.iS rv 256 fl, wv])]]) (fun i => i <= 256) (fun i => 256 - i) ?_ 0 (by omega) rfl rfl
 rintro i hi
 simp only [Qrd]
 by_cases h : i < 256
 . have c1 : decide ((i : Int) < ((256 : Nat) : Int)) = true := Zmo (by omega)
   have w1 := Bw (i := i) (by omega)
   obtain ⟨f, hf⟩ := ldr i h
   have at1 := hs.at (k := .i64) Tryz.underlying22 Qje (by decide) (i := (i : Int)) (by omega) (by omega)
   simp only [Qn, Qf, Qg, Ql, Qa, Qc, nov, gd, rho, Qe, wr, Nat.reduceAdd, Nat.reduceSub, if_true, if_false, reduceIte, reduceCtorEq, Qi, Int.reduceBEq, Int.reduceBNe, Int.reduceLT, Int.reduceLE, ↓Qh, c1, at1, hf, ta, w1, e256]
   exact W.done ⟨i + 1, rfl, rfl, by omega, by omega⟩
 . have c1 : decide ((i : Int) < ((256 : Nat) : Int)) = false := Zmp (by omega)
   have hi2 : i = 256 := by omega
   subst hi2
   simp only [Qn, Qf, Qg, Ql, Qa, Qc, nov, gd, rho, Qe, wr, Nat.reduceAdd, Nat.reduceSub, if_true, if_false, reduceIte, reduceCtorEq, Qi, Int.reduceBEq, Int.reduceBNe, Int.reduceLT, Int.reduceLE, ↓Qh, c1]
   refine W.done ?_
   simp only [Qn, Qf, Qg, Ql, Qa, Qc, nov, gd, rho, Qe, wr, Nat.reduceAdd, Nat.reduceSub, if_true, if_false, reduceIte, reduceCtorEq, Qi, Int.reduceBEq, Int.reduceBNe, Int.reduceLT, Int.reduceLE, ↓Qh, ta, new, Qb, hset, Qu, Qs, Qp, Nat.reduceLT, Nat.reduceEqDiff, splice, zerosN, Qo, Qq, Qk, V.pure, Nat.reduceMul, Nat.reduceLeDiff, Qr, wsc, lw]
   refine W.ul ?_
   refine W.loop (fun (i : Nat) t H => ∃ F : AM.Frame, Bu [3, 33, 34, 35] t 0 = Qnr (.bool true) wv (.int .i64 n) (.int .i64 i) /\ i <= n /\ H = [F] /\ (F = [(1, .cells [.iS rv 256 fl, wv])] \/ ∃ x, F = [(1, .cells [.iS rv 256 fl, wv]), (7, .cells x)])) (fun i => n - i) ?_ 0 ⟨_, rfl, by omega, rfl, .inl rfl⟩ rfl
   rintro i t H ⟨F, ht, hi, rfl, hF⟩
   have hd : ([F] : Heap).modify 0 (J8 fun s => [7].contains s) = [[(1, .cells [.iS rv 256 fl, wv])]] := by
    rcases hF with rfl | ⟨x, rfl⟩ <;> rfl
   have wvr : wv.refs (fun f s => f == 0 && [7].contains s) = false := hv.noRefs _
   refine ⟨_, _, Ye (kt := [3, 33, 34, 35]) (ds := [7]) rfl ?_ ?_, ?_⟩
   . rw [ht]
     simp only [Qnr, Qx, V.refs, wvr]; simp
   . rw [hd]
     simp only [Zi, Zo, O.refs, Qx, V.refs, wvr]; simp
   rw [ht, hd]
   simp only [Qnr]
   by_cases h : i < n
   . have c1 : decide ((i : Int) < n) = true := Zmo (by omega)
     have w1 := Bw (i := i) (by omega)
     obtain ⟨e1, fl2, e2⟩ := hwait i h
     have at1 := hv.at (k := .i64) Tryz.underlying23 Qmw (by decide) (i := (i : Int)) (by omega) (by omega)
     have ldw := Quj h hv.1 e1 e2
     obtain ⟨m, rfl, hm⟩ := (Q24 (a i) (ha i h).1 (ha i h).2).op (by rfl) rfl
     have hm' : ∀ s H, _ := fun s H => hm 79 0 s H rfl
     simp only [Qn, Qf, Qg, Ql, Qa, Qc, nov, gd, rho, Qe, wr, Nat.reduceAdd, Nat.reduceSub, if_true, if_false, reduceIte, reduceCtorEq, Qi, Int.reduceBEq, Int.reduceBNe, Int.reduceLT, Int.reduceLE, ↓Qh, c1, at1, ldw, ta, new, Qb, hset, Qu, Qs, Qp, Nat.reduceLT, Nat.reduceEqDiff, splice, zerosN, Qo, Qq, Qk, V.pure, Nat.reduceMul, Nat.reduceLeDiff, Qr, w1, hm', e256]
     exact W.done ⟨i + 1, ⟨_, rfl, by omega, rfl, .inr ⟨_, rfl⟩⟩, by omega⟩
   . have c1 : decide ((i : Int) < n) = false := Zmp (by omega)
     simp only [Qn, Qf, Qg, Ql, Qa, Qc, nov, gd, rho, Qe, wr, Nat.reduceAdd, Nat.reduceSub, if_true, if_false, reduceIte, reduceCtorEq, Qi, Int.reduceBEq, Int.reduceBNe, Int.reduceLT, Int.reduceLE, ↓Qh, c1]
     refine W.done ?_
     simp only [Qn, Qf, Qg, Ql, Qa, Qc, nov, gd, rho, Qe, wr, Nat.reduceAdd, Nat.reduceSub, if_true, if_false, reduceIte, reduceCtorEq, Qi, Int.reduceBEq, Int.reduceBNe, Int.reduceLT, Int.reduceLE, ↓Qh]
     exact W.done (End.ret (v := .int .i64 0) rfl rfl)
end
section
set_option maxRecDepth 100000
open Go.AM
attribute [local irreducible] U W
theorem Q7r : callN Tryz.prog Qz 60 (some 288) [.int .u64 1, .int .u64 256] [] = some (.ret (.tuple [.int .u64 0, .int .u64 256]), []) := by kernel_rfl
theorem mul_fz : Fz Tryz.prog Qz 288 [.int .u64 1, .int .u64 256] fun x => x = .tuple [.int .u64 0, .int .u64 256] :=
 ⟨_, _, _, Ym.2 ⟨60, Q7r⟩, Q6u (Qt rfl (Qt rfl rfl)), rfl⟩
theorem Q6k (n m : Nat) (x : Int) : List.replicate n x ++ List.replicate m x = List.replicate (n + m) x := by
 induction n with
 | zero => simp
 | succ n ih => rw [List.replicate_succ, Zle, ih, Nat.succ_add, List.replicate_succ]
def Kv (n : Nat) : List Int := List.replicate n 256 ++ List.replicate (256 - n) 0
theorem Bv {n : Nat} (h : n <= 256) : (Kv n).length = 256 := by simp [Kv]; omega
theorem Q0q {n m : Nat} (h : m <= n) : (Q3 (Kv n)).take m = Q3 (List.replicate m 256) := by
 have : (List.replicate n (256 : Int) ++ List.replicate (256 - n) 0).take m = List.replicate m 256 := by
  rw [List.take_append_of_le_length (by simp; exact h), List.take_replicate]; congr 1; omega
 rw [Q3, <- List.map_take, Kv, this]; rfl
theorem Qkq {n m : Nat} (h : n + m <= 256) : splice (Q3 (Kv n)) n (Q3 (List.replicate m 256)) = Q3 (Kv (n + m)) := by
 have e : splice (Kv n) n (List.replicate m 256) = Kv (n + m) := by
  unfold splice Kv
  rw [List.take_left' (by simp), Zmj, List.drop_append, Zlx (by simp), Zmj, Zlh, List.drop_replicate, Q6k]
  congr 2; omega
 rw [<- e]
 simp [splice, Q3]
theorem Q5n {P : Program} {u e : TypeId} (hu : P.underlying u = some (.slice e)) {q : Nat} (hs : sz P e = some q) {g : Get} {f s o len c n : Nat} {k : IntKind} (h : n <= c) (h2 : 0 < c) (h3 : len <= c) :
 Z6 P g u (.mS f s o len (some c) q) none (some (.int k n)) none = some (.mS f s o n (some c) q) := by
 simp only [Z6, Bg, hu, hs, if_true, Qpm, Bx, Zl5, Zlr]
 rw [if_pos ⟨by omega, by omega, by omega, by omega, by omega, by omega, by simp⟩]
 simp
theorem Q01 : Fz Tryz.prog Qz 242 [.iS [.int .i64 256] 1 true, .int .i64 256] fun x => x = .iS (Q3 (Kv 256)) 256 true := by
 refine Jt Tryz.func242 rfl ?_
 obtain ⟨m, rfl, hm⟩ := mul_fz.op (by rfl) rfl
 have hm' : ∀ s H, _ := fun s H => hm 242 0 s H rfl
 have cv : ∀ g, convertV Tryz.prog g 3 211 (.int .i64 ((1 : Nat) : Int)) = some (.val (.int .u64 1) none) := fun g => by simp only [convertV, Tryz.underlying3, Tryz.underlying211]; rfl
 have cv2 : ∀ g, convertV Tryz.prog g 3 211 (.int .i64 256) = some (.val (.int .u64 256) none) := fun g => by simp only [convertV, Tryz.underlying3, Tryz.underlying211]; rfl
 have cv3 : ∀ g, convertV Tryz.prog g 211 3 (.int .u64 256) = some (.val (.int .i64 256) none) := fun g => by simp only [convertV, Tryz.underlying3, Tryz.underlying211]; rfl
 have rm : Yw 256 8 = true := by decide
 have hZ : zerosN [V.int .i64 0] 256 = Q3 (Kv 0) := by kernel_rfl
 have hZ' : zerosN [V.int .i64 0] (256 : Int).toNat = Q3 (Kv 0) := hZ
 have c0 : decide ((0 : Int) > 0) = false := rfl
 have c1 : decide ((256 : Int) > 9223372036854775807) = false := rfl
 have cp0 : Qa5 Tryz.prog (Qb [[(30, .cells (Q3 (Kv 0)))]]) 32 (.mS 0 30 0 256 (some 256) 1) (.iS [.int .i64 256] 1 true) = some (.val (.int .i64 1) (some (0, 30, .cells (Q3 (Kv 1))))) := by
  have sc : Xo (Qb [[(30, .cells (Q3 (Kv 0)))]]) 1 (.iS [.int .i64 256] 1 true) = some (Q3 (List.replicate 1 256), 1) := rfl
  have hg : Qb [[(30, O.cells (Q3 (Kv 0)))]] 0 30 = some (.cells (Q3 (Kv 0))) := rfl
  simp only [Qa5, Tryz.underlying32, sz3, sc, Qah, hg, if_true]
  have sp := Qkq (n := 0) (m := 1) (by omega)
  have tk : (Q3 (List.replicate 1 256)).take (min 1 256 * 1) = Q3 (List.replicate 1 256) := rfl
  rw [tk, sp, if_pos ⟨by rw [X6, Bv (by omega)]; decide, rfl⟩]
  rfl
 simp only [Qn, Qf, Qg, Ql, Qa, Qc, nov, gd, rho, Qe, wr, Nat.reduceAdd, Nat.reduceSub, if_true, if_false, reduceIte, reduceCtorEq, Qi, Int.reduceBEq, Int.reduceBNe, Int.reduceLT, Int.reduceLE, ↓Qh, Tryz.ntmps242, ta, new, Qb, hset, Qu, Qs, Qp, Nat.reduceLT, Nat.reduceEqDiff, cv, cv2, cv3, hm', c0, c1, Tryz.underlying32, by64, Int.reduceToNat, rm, and_self, hZ, hZ', Qsz, cp0, Int.reduceGT]
 refine W.ul ?_
 refine W.loopS (kt := [7, 8]) rfl (fun n : Nat => Qze (.mS 0 30 0 256 (some 256) 1) (.int .i64 n)) (fun n => [[(30, .cells (Q3 (Kv n)))]]) (fun n => 1 <= n /\ n <= 256) (fun n => 256 - n) ?_ 1 (by omega) rfl rfl
 rintro n ⟨h1, h2⟩
 simp only [Qze]
 have len := fun g => len_m (P := Tryz.prog) Tryz.underlying32 (f := 0) (s := 30) (o := 0) (len := 256) (esz := 1) (cap := some 256) g
 by_cases h : n < 256
 . have c2 : decide ((n : Int) < ((256 : Nat) : Int)) = true := Zmo (by omega)
   have sl1 : ∀ g, Z6 Tryz.prog g 32 (.mS 0 30 0 256 (some 256) 1) (some (.int .i64 n)) none none = some (.mS 0 30 n (256 - n) (some (256 - n)) 1) := fun g => by
    have := Qto (P := Tryz.prog) (u := 32) Tryz.underlying32 sz3 (f := 0) (s := 30) (o := 0) (len := 256) (c := 256) (w := n) (k := .i64) (by omega) (by omega) g
    rw [this, if_neg (by omega)]; simp
   have sl2 : ∀ g, Z6 Tryz.prog g 32 (.mS 0 30 0 256 (some 256) 1) none (some (.int .i64 n)) none = some (.mS 0 30 0 n (some 256) 1) := fun g => Q5n Tryz.underlying32 sz3 (by omega) (by omega) (by omega)
   have cp : Qa5 Tryz.prog (Qb [[(30, .cells (Q3 (Kv n)))]]) 32 (.mS 0 30 n (256 - n) (some (256 - n)) 1) (.mS 0 30 0 n (some 256) 1) = some (.val (.int .i64 (min n (256 - n) : Nat)) (some (0, 30, .cells (Q3 (Kv (n + min n (256 - n))))))) := by
    have hg : Qb [[(30, O.cells (Q3 (Kv n)))]] 0 30 = some (.cells (Q3 (Kv n))) := rfl
    have hl : (Q3 (Kv n)).length = 256 := by rw [X6, Bv h2]
    have sc : Xo (Qb [[(30, .cells (Q3 (Kv n)))]]) 1 (.mS 0 30 0 n (some 256) 1) = some (Q3 (List.replicate n 256), n) := by
     simp only [Xo, Qy, hg, List.drop_zero, Zkt, Q0q (Zjw n)]
     rw [if_pos ⟨trivial, by rw [hl]; omega⟩]
    have tk : (Q3 (List.replicate n 256)).take (min n (256 - n) * 1) = Q3 (List.replicate (min n (256 - n)) 256) := by
     rw [Zkt, Q3, <- List.map_take, List.take_replicate]
     have : min (min n (256 - n)) n = min n (256 - n) := by omega
     rw [this]; rfl
    simp only [Qa5, Tryz.underlying32, sz3, sc, Qah, hg, if_true, tk]
    rw [Qkq (by omega), if_pos ⟨by rw [hl]; omega, Qo1 _⟩]
   have w1 : (IntKind.i64).wrap ((n : Int) + ((min n (256 - n) : Nat) : Int)) = ((n + min n (256 - n) : Nat) : Int) := by rw [wrap_i64] <;> omega
   simp only [Qn, Qf, Qg, Ql, Qa, Qc, nov, gd, rho, Qe, wr, Nat.reduceAdd, Nat.reduceSub, if_true, if_false, reduceIte, reduceCtorEq, Qi, Int.reduceBEq, Int.reduceBNe, Int.reduceLT, Int.reduceLE, ↓Qh, len, c2, sl1, sl2, Qsz, cp, new, Qb, hset, Qu, Qs, Qp, Nat.reduceLT, Nat.reduceEqDiff]
   refine W.opsK (by kernel_rfl) ?_
   simp only [Qn, Qf, Qg, Ql, Qa, Qc, nov, gd, rho, Qe, wr, Nat.reduceAdd, Nat.reduceSub, if_true, if_false, reduceIte, reduceCtorEq, Qi, Int.reduceBEq, Int.reduceBNe, Int.reduceLT, Int.reduceLE, ↓Qh, w1]
   exact W.done ⟨n + min n (256 - n), rfl, rfl, by omega, by omega⟩
 . have c2 : decide ((n : Int) < ((256 : Nat) : Int)) = false := Zmp (by omega)
   have hn : n = 256 := by omega
   subst hn
   simp only [Qn, Qf, Qg, Ql, Qa, Qc, nov, gd, rho, Qe, wr, Nat.reduceAdd, Nat.reduceSub, if_true, if_false, reduceIte, reduceCtorEq, Qi, Int.reduceBEq, Int.reduceBNe, Int.reduceLT, Int.reduceLE, ↓Qh, len, c2]
   refine W.done ?_
   simp only [Qn, Qf, Qg, Ql, Qa, Qc, nov, gd, rho, Qe, wr, Nat.reduceAdd, Nat.reduceSub, if_true, if_false, reduceIte, reduceCtorEq, Qi, Int.reduceBEq, Int.reduceBNe, Int.reduceLT, Int.reduceLE, ↓Qh]
   refine W.done (Zu.normal (v := .mS 0 30 0 256 (some 256) 1) rfl ?_ rfl)
   have e : ((Q3 (Kv 256)).drop 0).take (256 * 1) = Q3 (Kv 256) := by
    rw [List.drop_zero, Zmg]; rw [X6, Bv (Zjw _)]; exact Zjw _
   have := Qi8 (g := Qb [[(30, O.cells (Q3 (Kv 256)))]]) (f := 0) (s := 30) (o := 0) (len := 256) (esz := 1) (cap := some 256) (m := 10) rfl (by rw [X6, Bv (Zjw _)]; exact Zjw _) (by rw [e]; exact Qet _ _ _)
   rw [e] at this
   exact this
end
end Go.Proofs.YtgnnlchhfiomgaaGreatDoor
