/- This file holds in one the texts D3, D4, D5, D6, D7; each says at its head what it proves. -/
import Derived.Test.YteagpfbdmiihaaaGreatDoorT31
set_option linter.unusedSimpArgs false
set_option linter.unusedVariables false
namespace Go.Proofs.YteagpfbdmiihaaaGreatDoor
section
set_option maxRecDepth 100000
open Go.AM
attribute [local irreducible] U W
theorem Qiv {esz n : Nat} {v : V} {cells : List V} (h : Zq esz v cells n) : v.scalar = true := by
 obtain ⟨_, ⟨rfl, _⟩ | ⟨f, rfl⟩⟩ := h <;> rfl
def rep (i : Nat) : List Int := List.replicate i 256
theorem Qn1 (i : Nat) : (rep i).length = i := by simp [rep]
theorem Q84 {n i : Nat} (h : i < n) : (rep n)[i]? = some 256 := by
 unfold rep; rw [List.getElem?_replicate, if_pos h]
theorem Q49 (i : Nat) : rep (i + 1) = rep i ++ [256] := by simp [rep, List.replicate_succ']
def Qf2 (k i : Nat) : V := if i = 0 then .nS else .gS k 21 (Q3 (rep i)) i 1
def Qgw (bv wv : V) (i : Nat) : AM.Frame := if i = 0 then [(1, .cells [bv, wv]), (2, .cells [.nS, .nS])] else [(1, .cells [bv, wv]), (2, .cells [.nS, .nS]), (21, .grow i)]
theorem Q1a (K : Heap) (bv wv : V) (i : Nat) (hi : i < 256) :
 Zj Tryz.prog (Qz.mt 77) K.length (Qb (K ++ [Qgw bv wv i])) (some 21) 46 46 (Qf2 K.length i) (.iS [.int .i64 256] 1 true) =
  some (.val (Qf2 K.length (i + 1)) (some (K.length, 21, .grow (i + 1)))) := by
 have g21 : Qb (K ++ [Qgw bv wv i]) K.length 21 = if i = 0 then none else some (.grow i) := by
  rw [Jv]
  show Qu (Qgw bv wv i) 21 = _
  unfold Qgw; by_cases h : i = 0
  . simp only [h, if_true]; rfl
  . simp only [h, if_false]; rfl
 have sc : ∀ g, Qy g 1 (.iS [.int .i64 256] 1 true) = some ([.int .i64 256], 1) := fun g => rfl
 unfold Qf2
 rw [if_neg (Znp i), Q49]
 by_cases h : i = 0
 . subst h
   simp only [if_true] at g21 ⊢
   rw [Qgg Tryz.underlying46 sz3 by64 zc3 rfl Tryz.underlying46 (sc _) (by decide) (by decide), Qcc rfl rfl g21]
   rfl
 . simp only [h, if_false] at g21 ⊢
   rw [Qe5 Tryz.underlying46 sz3 by64 zc3 rfl Tryz.underlying46 (sc _) (by decide) (Qa2 (by omega) (by omega)) rfl rfl g21]
   simp [Q3]
def X6 (r : Nat -> List V) (Z : List V) (i : Nat) : List V := ((List.range i).map r).flatten ++ Z.drop (256 * i)
theorem Qcn {r : Nat -> List V} : ∀ {i : Nat}, (∀ j, j < i -> (r j).length = 256) -> ((List.range i).map r).flatten.length = 256 * i
 | 0, _ => rfl
 | i + 1, h => by
   rw [Zno, Znl, Zl4, Zl3, Qcn (fun j hj => h j (by omega))]
   simp [h i (by omega)]; omega
theorem Qw7 (r : Nat -> List V) (Z : List V) : X6 r Z 0 = Z := by simp [X6]
theorem Qeo {r : Nat -> List V} {Z : List V} (hZ : Z.length = 65536) {i : Nat} (hi : i <= 256) (h : ∀ j, j < 256 -> (r j).length = 256) : (X6 r Z i).length = 65536 := by
 rw [X6, Zl3, Qcn (fun j hj => h j (by omega)), Zm3, hZ]; omega
theorem Qta {r : Nat -> List V} {Z : List V} (hZ : Z.length = 65536) {i : Nat} (hi : i < 256) (h : ∀ j, j < 256 -> (r j).length = 256) : splice (X6 r Z i) (256 * i) (r i) = X6 r Z (i + 1) := by
 have hf := Qcn (r := r) (i := i) (fun j hj => h j (by omega))
 unfold splice X6
 rw [Zno, Znl, Zl4, List.take_left' hf, List.drop_append, hf, Zm2 (by rw [hf, h i hi]; omega), h i hi]
 have e : 256 * i + 256 - 256 * i = 256 := by omega
 rw [e, Zl1]
 have e2 : 256 * i + 256 = 256 * (i + 1) := by omega
 rw [e2]
 simp
theorem Qbn (n : Nat) (x : V) : (zerosN [x] n).length = n := by
 induction n with
 | zero => rfl
 | succ n ih => simp [zerosN, ih]
theorem Q0r (k : Nat) {n i : Nat} (h : i < n) : (Yv k n)[i]? = some (.mS k 20 (256 * i) 256 (some 256) 1) := by simp [Yv, h]
theorem Qyg (k : Nat) : Qk (Yv k 256) = false := by
 show Qk ((List.range (255 + 1)).map fun j => V.mS k 20 (256 * j) 256 (some 256) 1) = false
 rw [List.range_succ_eq_map]; rfl
theorem Q7g {P : Program} {t : TypeId} {g : Get} {cs : List V} {o : Nat} : ldV P t g (.rptr cs o) = Q0 P t cs o := rfl
theorem Q5e {g : Get} {f s o : Nat} {xs c : List V} {fl : Bool} (hc : Yf c) (hg : g f s = some (.cells xs)) (hl : o + 256 <= xs.length) :
 Qbd Tryz.prog g 25 (.mS f s o 256 (some 256) 1) (.iS c 256 fl) = some (.val (.int .i64 256) (some (f, s, .cells (splice xs o c)))) := by
 have sc : Xy g 1 (.iS c 256 fl) = some (c, 256) := by simp [Xy, Qy, hc.1]
 have tk : c.take (min 256 256 * 1) = c := Znn (by rw [hc.1]; decide)
 simp only [Qbd, Tryz.underlying25, sz5, sc, Qas, hg, if_true, tk, Qk1 hc.2]
 rw [if_pos ⟨by omega, trivial⟩]
 rfl
theorem Qw4 {r : Nat -> List V} {Z : List V} (p : Nat -> Nat -> Bool) (h : ∀ j, j < 256 -> (r j).all Qpw = true) (hz : ∀ p, Qx p Z = false) : Qx p (X6 r Z 256) = false := by
 have app : ∀ a b : List V, Qx p a = false -> Qx p b = false -> Qx p (a ++ b) = false := by
  intro a b ha hb
  induction a with
  | nil => exact hb
  | cons x a iha => simp only [Qx, Zmj, Zm9] at ha ⊢; exact ⟨ha.1, iha ha.2⟩
 have dr : ∀ (l : List V) (m : Nat), Qx p l = false -> Qx p (l.drop m) = false := by
  intro l
  induction l with
  | nil => intro m _; simp [Qx]
  | cons x l ih => intro m h; cases m with
    | zero => exact h
    | succ m => simp only [Qx, Zm9] at h; exact ih m h.2
 have fl : ∀ i, i <= 256 -> Qx p ((List.range i).map r).flatten = false := by
  intro i
  induction i with
  | zero => intro _; rfl
  | succ i ih =>
    intro hi
    rw [Zno, Znl, Zl4]
    refine app _ _ (ih (by omega)) ?_
    simp only [Zlh, List.map_nil, List.flatten_cons, List.flatten_nil, Zma]
    exact Qqg p (h i (by omega))
 exact app _ _ (fl 256 (Zk0 _)) (dr _ _ (hz p))
def Qbi (a : Nat -> Int) (d : Nat -> List V) (i : Nat) : List V := ((List.range i).map fun j => [V.int .i64 (a j), .iS (d j) 256 false]).flatten
theorem Qcm (a : Nat -> Int) (d : Nat -> List V) (i : Nat) : Qbi a d (i + 1) = Qbi a d i ++ [.int .i64 (a i), .iS (d i) 256 false] := by simp [Qbi, Zno]
def Kc (k : Nat) (a : Nat -> Int) (d : Nat -> List V) (i : Nat) : V := if i = 0 then .nS else .gS k 58 (Qbi a d i) i 2
theorem Qla (p : Nat -> Nat -> Bool) (a : Nat -> Int) (d : Nat -> List V) : ∀ i, Qx p (Qbi a d i) = false
 | 0 => rfl
 | i + 1 => by
   rw [Qcm]
   have app : ∀ a b : List V, Qx p a = false -> Qx p b = false -> Qx p (a ++ b) = false := by
    intro a b ha hb
    induction a with
    | nil => exact hb
    | cons x a iha => simp only [Qx, Zmj, Zm9] at ha ⊢; exact ⟨ha.1, iha ha.2⟩
   exact app _ _ (Qla p a d i) rfl
theorem Q09 (k : Nat) (a : Nat -> Int) (d : Nat -> List V) (i : Nat) : (Kc k a d i).refs (fun f s => f == k && [9].contains s) = false := by
 unfold Kc; split
 . rfl
 . simp only [V.refs, Qla]; simp
def Qiz (bv wv g o : V) (i : Nat) : AM.Frame := if i = 0 then [(1, .cells [bv, wv]), (2, .cells [g, o]), (21, .grow 256)] else [(1, .cells [bv, wv]), (2, .cells [g, o]), (21, .grow 256), (58, .grow i)]
def Qqj (bv wv g o : V) (y : List V) (i : Nat) : AM.Frame := if i = 0 then [(1, .cells [bv, wv]), (2, .cells [g, o]), (21, .grow 256)] else [(1, .cells [bv, wv]), (2, .cells [g, o]), (9, .cells y), (21, .grow 256), (58, .grow i)]
theorem Q31 (bv wv g o : V) (y : List V) (i : Nat) : J8 (fun s => [9].contains s) (Qqj bv wv g o y i) = Qiz bv wv g o i := by
 unfold Qiz Qqj; split <;> rfl
theorem Qtm {cs : List V} {n i : Nat} {a : Int} {c : List V} {fl : Bool} (h : i < n) (hl : cs.length = n * 2) (e1 : cs[2 * i]? = some (.int .i64 a)) (e2 : cs[2 * i + 1]? = some (.iS c 256 fl)) :
 Q0 Tryz.prog 213 cs ((i : Int).toNat * 2) = some (.agg [.int .i64 a, .iS c 256 fl]) := by
 have e : (i : Int).toNat * 2 = 2 * i := by omega
 rw [e, Q2o, if_pos (by omega)]
 have g1 := Zl7.1 e1
 have g2 := Zl7.1 e2
 obtain ⟨l1, g1⟩ := g1
 obtain ⟨l2, g2⟩ := g2
 rw [Znm l1, Zmz, Znm l2, Zmz, List.take_zero, g1, g2]
def Qdw (bv wv g o : V) (y : List V) (i : Nat) : AM.Frame := if i = 0 then [(1, .cells [bv, wv]), (2, .cells [g, o]), (9, .cells y), (21, .grow 256)] else [(1, .cells [bv, wv]), (2, .cells [g, o]), (9, .cells y), (21, .grow 256), (58, .grow i)]
def twF5 (bv wv g o : V) (y : List V) (i : Nat) : AM.Frame := [(1, .cells [bv, wv]), (2, .cells [g, o]), (9, .cells y), (21, .grow 256), (58, .grow (i + 1))]
theorem byW : byt Tryz.prog 213 = some 32 := by kernel_rfl
theorem Q1p (K : Heap) (bv wv g : V) (y : List V) (a : Nat -> Int) (d : Nat -> List V) (G : Heap) (i : Nat) (hi : i < 4096) :
 Zj Tryz.prog (Qz.mt 77) K.length (Qb (K ++ Qdw bv wv g (Kc K.length a d i) y i :: G)) (some 58) 54 54 (Kc K.length a d i) (.iS [.int .i64 (a i), .iS (d i) 256 false] 1 true) =
  some (.val (Kc K.length a d (i + 1)) (some (K.length, 58, .grow (i + 1)))) := by
 have g58 : Qb (K ++ Qdw bv wv g (Kc K.length a d i) y i :: G) K.length 58 = if i = 0 then none else some (.grow i) := by
  rw [Jv]
  show Qu (Qdw bv wv g _ y i) 58 = _
  unfold Qdw; by_cases h : i = 0
  . simp only [h, if_true]; rfl
  . simp only [h, if_false]; rfl
 have sc : ∀ g, Qy g 2 (.iS [.int .i64 (a i), .iS (d i) 256 false] 1 true) = some ([.int .i64 (a i), .iS (d i) 256 false], 1) := fun g => rfl
 unfold Kc at g58 ⊢
 rw [if_neg (Znp i), Qcm]
 by_cases h : i = 0
 . subst h
   simp only [if_true] at g58 ⊢
   rw [Qgg Tryz.underlying54 Qnk byW Qzc rfl Tryz.underlying54 (sc _) (by decide) (by decide), Qcc rfl rfl g58]
   rfl
 . simp only [h, if_false] at g58 ⊢
   rw [Qe5 Tryz.underlying54 Qnk byW Qzc rfl Tryz.underlying54 (sc _) (by decide) (Qa2 (by omega) (by omega)) rfl rfl g58]
theorem Qqo {P : Program} {F : Func} {t : List V} {H : Heap} {a : Nat} {T : TypeId} {f s o : Nat} {xs : List V} {v : V} (hF : F.results.toList = [.cell a T]) (ht : t.getD a .bad = .ptr f s o) (hg : Qb H f s = some (.cells xs)) (hr : Q0 P T xs o = some v) : Qa4 P F t H = some v := by
 have h1 : Bv P t H (.cell a T) = some v := by
  show (match t.getD a .bad with
   | .ptr f s o => (match Qb H f s with
     | some (.cells xs) => Q0 P T xs o
     | _ => none)
   | _ => none) = _
  rw [ht]
  show (match Qb H f s with
   | some (.cells xs) => Q0 P T xs o
   | _ => none) = _
  rw [hg]; exact hr
 have h2 : Qfy P t H [.cell a T] = some [v] := by
  show (match Bv P t H (.cell a T), (some [] : Option (List V)) with
   | some v, some vs => some (v :: vs)
   | _, _ => none) = _
  rw [h1]
 unfold Qa4
 rw [hF, h2]
theorem Qy1 (K : Heap) (hw : WF K) (bv wv : V) (r : Nat -> List V) (hb : Qmo K bv r) (cs : List V) (n : Nat) (hv : Zq 2 wv cs n) (hn : n <= 4096) (a : Nat -> Int) (d : Nat -> List V)
 (hwait : ∀ j, j < n -> cs[2 * j]? = some (.int .i64 (a j)) /\ ∃ fl, cs[2 * j + 1]? = some (.iS (d j) 256 fl)) (hdata : ∀ j, j < n -> Yf (d j)) :
 CW Tryz.prog Qz 77 [.agg [bv, wv]] K fun rr K' => rr = .ret (.agg [.gS (K.length + 1) 33 (Yv (K.length + 1) 256) 256 1, Kc K.length a d n]) /\
  K' = K ++ [Qiz bv wv (.gS (K.length + 1) 33 (Yv (K.length + 1) 256) 256 1) (Kc K.length a d n) n, [(20, .cells (X6 r (zerosN [.int .u8 0] 65536) 256)), (33, .grow 256)]] := by
 generalize hZ : zerosN [V.int .u8 0] 65536 = Z
 refine Xk Tryz.func77 rfl ?_
 obtain ⟨p, q, hp, hq, hfl⟩ := hb.ex
 have len := hb.len
 have lw := hv.len Tryz.underlying54
 have wsc : wv.scalar = true := Qiv hv
 simp only [Qn, Qh, Qg, Ql, Qa, Qd, nov, gd, rho, Qe, wr, simprocAttr, Qj, ↓Qi, Tryz.ntmps77, ta, new, Qm8, Qu, Qs, splice, zerosN, Qo, Qr, Qk, V.pure, Qq, hb.sc, wsc, len]
 refine W.ul ?_
 refine W.loopS (kt := [1, 2, 3, 11, 12, 13]) rfl (fun i : Nat => Q3l (.ptr K.length 1 0) (.ptr K.length 2 0) (Qf2 K.length i) bv (.int .i64 256) (.int .i64 i)) (fun i => K ++ [Qgw bv wv i]) (fun i => i <= 256) (fun i => 256 - i) ?_ 0 (by omega) rfl rfl
 rintro i hi
 simp only [Q3l]
 by_cases h : i < 256
 . have c1 : decide ((i : Int) < 256) = true := Znv (by omega)
   have w1 := B0 (i := i) (by omega)
   obtain ⟨fl, hfi⟩ := hfl i h
   have hqi := fun G => hq i h G
   rw [hfi] at hqi
   have ap : Zj Tryz.prog (Qz.mt 77) K.length (Qb (K ++ [Qgw bv wv i])) (some 21) 46 46 (Qf2 K.length i) (.iS [.int .i64 ((256 : Nat) : Int)] 1 true) = some (.val (Qf2 K.length (i + 1)) (some (K.length, 21, .grow (i + 1)))) := Q1a K bv wv i h
   have mt20 : Qz.mt 77 20 = false := rfl
   have s21 : hset (K ++ [Qgw bv wv i]) K.length 21 (.grow (i + 1)) = K ++ [Qgw bv wv (i + 1)] := by
    rw [Kv]; show K ++ [Qs (Qgw bv wv i) 21 _] = _
    unfold Qgw; rw [if_neg (Znp i)]; split <;> rfl
   simp only [Qn, Qh, Qg, Ql, Qa, Qd, nov, gd, rho, Qe, wr, Nat.reduceAdd, Nat.reduceSub, if_true, if_false, reduceIte, reduceCtorEq, Nat.reduceLT, Nat.reduceEqDiff, Nat.reduceMul, Nat.reduceLeDiff, Qj, Int.reduceBEq, Int.reduceBNe, Int.reduceLT, Int.reduceLE, ↓Qi, c1, hp i h, hqi, ta, splice, zerosN, Qo, Qr, Qk, V.pure, Qq, w1, mt20, J9, ap, s21, Tryz.underlying46]
   exact W.done ⟨i + 1, rfl, rfl, by omega, by omega⟩
 . have c1 : decide ((i : Int) < 256) = false := Znw (by omega)
   have hi2 : i = 256 := by omega
   subst hi2
   simp only [Qn, Qh, Qg, Ql, Qa, Qd, nov, gd, rho, Qe, wr, simprocAttr, Qj, ↓Qi, c1]
   refine W.done ?_
   have hwF : WF (K ++ [Qgw bv wv 256]) := by
    refine WF.app hw ?_
    have b1 : bv.refs (fun f _ => Nat.ble (K.length + 1) f) = false := Qam (Ql7 (Nat.le_succ _)) bv hb.refs
    have b2 : wv.refs (fun f _ => Nat.ble (K.length + 1) f) = false := hv.noRefs _
    show Zh (fun f _ => Nat.ble (K.length + 1) f) [[(1, .cells [bv, wv]), (2, .cells [.nS, .nS]), (21, .grow 256)]] = true
    simp only [Zh, Zo, O.refs, Qx, V.refs, b1, b2]
    rfl
   obtain ⟨rr, KK, hcall, rfl, rfl⟩ := Q2h (K ++ [Qgw bv wv 256]) hwF (.iS (Q3 (rep 256)) 256 false) (rep 256) (Qn1 256) (fun i hi => Q84 hi) (by
    have := Bu.mk (rep 256) false
    rwa [Qn1] at this)
   have hk1 : (K ++ [Qgw bv wv 256]).length = K.length + 1 := by simp
   have hcall' : callOp Qz (Q5 Tryz.prog Qz) 77 K.length (some 24) 95 [Qf2 K.length 256] (K ++ [Qgw bv wv 256]) =
    some (.ret (.gS (K.length + 1) 33 (Yv (K.length + 1) 256) 256 1), K ++ [Qgw bv wv 256, [(20, .cells (zerosN [.int .u8 0] 65536)), (33, .grow 256)]]) := by
    refine Qkj rfl rfl rfl (args' := [.iS (Q3 (rep 256)) 256 false]) ?_ ?_
    . have e : Qf2 K.length 256 = .gS K.length 21 (Q3 (rep 256)) 256 1 := rfl
      rw [e]
      have f1 : frz (fun _ _ => none) 12 (.gS K.length 21 (Q3 (rep 256)) 256 1) = (Zb (frz (fun _ _ => none) 11) (Q3 (rep 256))).map fun cs => .iS cs 256 false := rfl
      show Zb (frz (fun _ _ => none) 12) _ = _
      simp only [Zb, f1, Qez (fun _ _ => none) 10, Zkw]
    . rw [hk1] at hcall
      rw [hcall]
      simp
   rw [hZ] at hcall'
   have hF : Qgw bv wv 256 = [(1, .cells [bv, wv]), (2, .cells [.nS, .nS]), (21, .grow 256)] := rfl
   rw [hF] at hcall' ⊢
   simp only [Qn, Qh, Qg, Ql, Qa, Qd, nov, gd, rho, Qe, wr, simprocAttr, Qj, ↓Qi, hcall', ta, new, Qm8, Qu, Qs, splice, zerosN, Qo, Qr, Qk, V.pure, Qq, hb.sc, wsc, len]
   have hZl : Z.length = 65536 := by rw [<- hZ]; exact Qbn _ _
   have hr : ∀ j, j < 256 -> (r j).length = 256 := fun j hj => (hb.rows j hj).1
   refine W.ul ?_
   refine W.loopS (kt := [1, 2, 27, 28, 29]) rfl (fun i : Nat => Q3k (.ptr K.length 1 0) (.ptr K.length 2 0) bv (.int .i64 256) (.int .i64 i))
    (fun i => K ++ [[(1, .cells [bv, wv]), (2, .cells [.gS (K.length + 1) 33 (Yv (K.length + 1) 256) 256 1, .nS]), (21, .grow 256)], [(20, .cells (X6 r Z i)), (33, .grow 256)]]) (fun i => i <= 256) (fun i => 256 - i) ?_ 0 (by omega) rfl (by rw [Qw7])
   rintro i hi
   simp only [Q3k]
   by_cases h : i < 256
   . have c1 : decide ((i : Int) < 256) = true := Znv (by omega)
     have w1 := B0 (i := i) (by omega)
     obtain ⟨fl, hfi⟩ := hfl i h
     have hqi := fun G => hq i h G
     rw [hfi] at hqi
     have at2 := at_r (P := Tryz.prog) (u := 53) (k := .i64) Tryz.underlying53 Qjk (f := K.length + 1) (s := 33) (len := 256) (i := (i : Int)) (Qyg (K.length + 1)) (by omega) (by omega)
     have gr : (Yv (K.length + 1) 256)[(i : Int).toNat * 1]? = some (.mS (K.length + 1) 20 (256 * i) 256 (some 256) 1) := by
      have e : (i : Int).toNat * 1 = i := by omega
      rw [e]; exact Q0r _ h
     have hlen := Qeo (r := r) hZl hi hr
     have cp := fun (g : Get) (hg : g (K.length + 1) 20 = some (.cells (X6 r Z i))) => Q5e (fl := fl) (hb.rows i h) hg (o := 256 * i) (by rw [hlen]; omega)
     have sp := Qta hZl h hr
     rw [sp] at cp
     generalize hD : X6 r Z i = D at cp ⊢
     generalize hD2 : X6 r Z (i + 1) = D2 at cp ⊢
     have cp' := cp (Qb (K ++ [[(1, .cells [bv, wv]), (2, .cells [.gS (K.length + 1) 33 (Yv (K.length + 1) 256) 256 1, .nS]), (21, .grow 256)], [(20, .cells D), (33, .grow 256)]])) (by rw [Qnj]; rfl)
     generalize hR : Yv (K.length + 1) 256 = R at at2 gr cp' ⊢
     simp only [Qn, Qh, Qg, Ql, Qa, Qd, nov, gd, rho, Qe, wr, simprocAttr, Qj, ↓Qi, c1, hp i h, hqi, ta, new, Qm8, Qu, Qs, w1, at2, Q7g, gr, Qr0, cp']
     subst hD2
     exact W.done ⟨i + 1, rfl, rfl, by omega, by omega⟩
   have c1 : decide ((i : Int) < 256) = false := Znw (by omega)
   have hi2 : i = 256 := by omega
   subst hi2
   have hDr : ∀ p : Nat -> Nat -> Bool, Qx p (X6 r Z 256) = false := fun p => Qw4 p (fun j hj => (hb.rows j hj).2) (by rw [<- hZ]; exact fun q => Qkd _ _ _ rfl)
   generalize hD : X6 r Z 256 = D at hDr ⊢
   have hRr : ∀ p : Nat -> Nat -> Bool, p (K.length + 1) 20 = false -> Qx p (Yv (K.length + 1) 256) = false := fun p hp => Qma _ _ _ hp
   generalize hR : Yv (K.length + 1) 256 = R at hRr ⊢
   simp only [Qn, Qh, Qg, Ql, Qa, Qd, nov, gd, rho, Qe, wr, simprocAttr, Qj, ↓Qi, c1]
   refine W.done ?_
   simp only [Qn, Qh, Qg, Ql, Qa, Qd, nov, gd, rho, Qe, wr, simprocAttr, Qj, ↓Qi, ta, new, Qm8, Qu, Qs, splice, zerosN, Qo, Qr, Qk, V.pure, Qq, hb.sc, wsc, len, lw]
   refine W.ul ?_
   refine W.loop (fun (i : Nat) t H => ∃ y : List V, Bi [2, 43, 44, 45] t 0 = Qsm (.ptr K.length 2 0) wv (.int .i64 n) (.int .i64 i) /\ i <= n /\ H = K ++ [Qqj bv wv (.gS (K.length + 1) 33 R 256 1) (Kc K.length a d i) y i, [(20, .cells D), (33, .grow 256)]] /\ Qx (fun f s => f == K.length && [9].contains s) y = false)
    (fun i => n - i) ?_ 0 ⟨[], rfl, by omega, rfl, rfl⟩ rfl
   rintro i t H ⟨y, ht, hi, rfl, hy⟩
   have hd : (K ++ [Qqj bv wv (.gS (K.length + 1) 33 R 256 1) (Kc K.length a d i) y i, [(20, .cells D), (33, .grow 256)]]).modify K.length (J8 fun s => [9].contains s) = K ++ [Qiz bv wv (.gS (K.length + 1) 33 R 256 1) (Kc K.length a d i) i, [(20, .cells D), (33, .grow 256)]] := by
    have := Qbz (J8 fun s => [9].contains s) K [Qqj bv wv (.gS (K.length + 1) 33 R 256 1) (Kc K.length a d i) y i, [(20, .cells D), (33, .grow 256)]] 0
    exact this.trans (by rw [<- Q31 bv wv _ _ y i]; rfl)
   have bvr : bv.refs (fun f s => f == K.length && [9].contains s) = false := Qam (fun f s h => by simp at h; simp; omega) bv hb.refs
   have wvr : wv.refs (fun f s => f == K.length && [9].contains s) = false := hv.noRefs _
   have Rr := hRr (fun f s => f == K.length && [9].contains s) (by simp)
   have Dr := hDr (fun f s => f == K.length && [9].contains s)
   have or_ := Q09 K.length a d i
   refine ⟨_, _, J4 (kt := [2, 43, 44, 45]) (ds := [9]) rfl ?_ ?_, ?_⟩
   . rw [ht]
     simp only [Qsm, Qx, V.refs, wvr]; simp
   . rw [hd, Bg, Qfo hw (fun f s h => by simp at h; omega)]
     unfold Qiz
     split <;> simp only [Zh, Zo, O.refs, Qx, V.refs, bvr, wvr, Rr, Dr, or_] <;> simp
   rw [ht, hd]
   simp only [Qsm]
   by_cases h : i < n
   . have c1 : decide ((i : Int) < n) = true := Znv (by omega)
     have w1 := B0 (i := i) (by omega)
     obtain ⟨e1, fl, e2⟩ := hwait i h
     have at1 := hv.at (k := .i64) Tryz.underlying54 Qnk (by decide) (i := (i : Int)) (by omega) (by omega)
     have ldw := Qtm h hv.1 e1 e2
     obtain ⟨m, rfl, hm⟩ := (Q3o (d i) fl (hdata i h)).op (by rfl) rfl
     have hm' : ∀ s H, _ := fun s H => hm 77 K.length s H rfl
     have n9 : Qb (K ++ [Qiz bv wv (.gS (K.length + 1) 33 R 256 1) (Kc K.length a d i) i, [(20, .cells D), (33, .grow 256)]]) K.length 9 = none := by
      rw [Jv]; show Qu (Qiz bv wv _ _ i) 9 = none; unfold Qiz; split <;> rfl
     have s9 : ∀ x, hset (K ++ [Qiz bv wv (.gS (K.length + 1) 33 R 256 1) (Kc K.length a d i) i, [(20, .cells D), (33, .grow 256)]]) K.length 9 (.cells x) = K ++ [Qdw bv wv (.gS (K.length + 1) 33 R 256 1) (Kc K.length a d i) x i, [(20, .cells D), (33, .grow 256)]] := fun x => by
      rw [Kv]; show K ++ [Qs (Qiz bv wv _ _ i) 9 _, _] = _; unfold Qiz Qdw; split <;> rfl
     have s9' : ∀ x z, hset (K ++ [Qdw bv wv (.gS (K.length + 1) 33 R 256 1) (Kc K.length a d i) x i, [(20, .cells D), (33, .grow 256)]]) K.length 9 (.cells z) = K ++ [Qdw bv wv (.gS (K.length + 1) 33 R 256 1) (Kc K.length a d i) z i, [(20, .cells D), (33, .grow 256)]] := fun x z => by
      rw [Kv]; show K ++ [Qs (Qdw bv wv _ _ x i) 9 _, _] = _; unfold Qdw; split <;> rfl
     have g9 : ∀ x, Qb (K ++ [Qdw bv wv (.gS (K.length + 1) 33 R 256 1) (Kc K.length a d i) x i, [(20, .cells D), (33, .grow 256)]]) K.length 9 = some (.cells x) := fun x => by
      rw [Jv]; show Qu (Qdw bv wv _ _ x i) 9 = _; unfold Qdw; split <;> rfl
     have g2 : ∀ x, Qb (K ++ [Qdw bv wv (.gS (K.length + 1) 33 R 256 1) (Kc K.length a d i) x i, [(20, .cells D), (33, .grow 256)]]) K.length 2 = some (.cells [.gS (K.length + 1) 33 R 256 1, Kc K.length a d i]) := fun x => by
      rw [Jv]; show Qu (Qdw bv wv _ _ x i) 2 = _; unfold Qdw; split <;> rfl
     have ap := Q1p K bv wv (.gS (K.length + 1) 33 R 256 1) [.int .i64 (a i), .iS (d i) 256 fl] a d [[(20, .cells D), (33, .grow 256)]] i (by omega)
     have s58 : ∀ x, hset (K ++ [Qdw bv wv (.gS (K.length + 1) 33 R 256 1) (Kc K.length a d i) x i, [(20, .cells D), (33, .grow 256)]]) K.length 58 (.grow (i + 1)) = K ++ [twF5 bv wv (.gS (K.length + 1) 33 R 256 1) (Kc K.length a d i) x i, [(20, .cells D), (33, .grow 256)]] := fun x => by
      rw [Kv]; show K ++ [Qs (Qdw bv wv _ _ x i) 58 _, _] = _; unfold Qdw twF5; split <;> rfl
     have g2' : ∀ x, Qb (K ++ [twF5 bv wv (.gS (K.length + 1) 33 R 256 1) (Kc K.length a d i) x i, [(20, .cells D), (33, .grow 256)]]) K.length 2 = some (.cells [.gS (K.length + 1) 33 R 256 1, Kc K.length a d i]) := fun x => by
      rw [Jv]; rfl
     have s2 : ∀ x o, hset (K ++ [twF5 bv wv (.gS (K.length + 1) 33 R 256 1) (Kc K.length a d i) x i, [(20, .cells D), (33, .grow 256)]]) K.length 2 (.cells [.gS (K.length + 1) 33 R 256 1, o]) = K ++ [Qqj bv wv (.gS (K.length + 1) 33 R 256 1) o x (i + 1), [(20, .cells D), (33, .grow 256)]] := fun x o => by
      rw [Kv]; rfl
     have mt57 : Qz.mt 77 57 = false := rfl
     have scw : (Kc K.length a d (i + 1)).scalar = true := by unfold Kc; rw [if_neg (Znp i)]; rfl
     have scw0 : (Kc K.length a d i).scalar = true := by unfold Kc; split <;> rfl
     have wcl : (Kc K.length a d (i + 1)).cells = some [Kc K.length a d (i + 1)] := by unfold Kc; rw [if_neg (Znp i)]; rfl
     simp only [Qn, Qh, Qg, Ql, Qa, Qd, nov, gd, rho, Qe, wr, simprocAttr, Qj, ↓Qi, c1, at1, ldw, ta, splice, zerosN, Qo, Qr, Qk, V.pure, Qq, w1, wcl, new, n9, s9, s9', g9, g2, hm', mt57, J9, ap, s58, g2', s2, scw, scw0, Tryz.underlying54]
     refine W.opsK (by kernel_rfl) ?_
     simp only [Qn, Qh, Qg, Ql, Qa, Qd, nov, gd, rho, Qe, wr, simprocAttr, Qj, ↓Qi, w1]
     exact W.done ⟨i + 1, ⟨_, rfl, by omega, rfl, by simp [Qx, V.refs]⟩, by omega⟩
   . have c1 : decide ((i : Int) < n) = false := Znw (by omega)
     have hi2 : i = n := by omega
     subst hi2
     simp only [Qn, Qh, Qg, Ql, Qa, Qd, nov, gd, rho, Qe, wr, simprocAttr, Qj, ↓Qi, c1]
     refine W.done ?_
     simp only [Qn, Qh, Qg, Ql, Qa, Qd, nov, gd, rho, Qe, wr, simprocAttr, Qj, ↓Qi]
     refine W.done (End.ret (v := .agg [.gS (K.length + 1) 33 R 256 1, Kc K.length a d i]) ?_ ?_)
     . refine Qqo (xs := [.gS (K.length + 1) 33 R 256 1, Kc K.length a d i]) rfl rfl ?_ (by rw [rd56]; rfl)
       rw [Jv]; show Qu (Qiz bv wv _ _ i) 2 = _; unfold Qiz; split <;> rfl
     . rw [Qat (by simp [V.refs, Qx])]
       exact ⟨rfl, by rw [<- hR, <- hD]⟩
end
section
set_option maxRecDepth 100000
open Go.AM
attribute [local irreducible] U W
def encD (r : Nat -> List V) (a : Nat -> Int) (d : Nat -> List V) (n : Nat) : V :=
 .agg [.iS ((List.range 256).map fun j => .iS (r j) 256 true) 256 false, if n = 0 then .nS else .iS (Qbi a d n) n false]
theorem Q1z {r : Nat -> List V} {Z : List V} (h : ∀ j, j < 256 -> (r j).length = 256) {i : Nat} (hi : i < 256) : ((X6 r Z 256).drop (256 * i)).take 256 = r i := by
 have key : ∀ m, m <= 256 -> i < m -> ∀ T : List V, ((((List.range m).map r).flatten ++ T).drop (256 * i)).take 256 = r i := by
  intro m
  induction m with
  | zero => intro _ h; omega
  | succ m ih =>
    intro hm him T
    rw [Zno, Znl, Zl4, Znj]
    by_cases e : i = m
    . subst e
      have hf := Qcn (r := r) (i := i) (fun j hj => h j (by omega))
      rw [List.drop_append, hf, Nat.sub_self, Zm2 (by rw [hf]; exact Zk0 _)]
      simp only [Zlh, List.map_nil, List.flatten_cons, List.flatten_nil, Zma, Zmm, Zm4]
      exact List.take_left' (h i (by omega))
    . exact ih (by omega) (by omega) _
 exact key 256 (Zk0 _) hi _
theorem Qlh (K : Heap) (rv : List V) (fl : Bool) (r : Nat -> List V) (hl : rv.length = 256) (hr : ∀ i, i < 256 -> ∃ f, rv[i]? = some (.iS (r i) 256 f)) (hrow : ∀ i, i < 256 -> Yf (r i)) : Qmo K (.iS rv 256 fl) r := by
 have hs : Zq 1 (.iS rv 256 fl) rv 256 := Zq.mk (by rw [hl])
 refine ⟨fun g => hs.len Tryz.underlying53 g, ⟨fun i => .iptr rv i, fun i => rv.getD i .bad, fun i hi => ?_, fun i hi G => ?_, fun i hi => ?_⟩, hrow, rfl, rfl, rfl⟩
 . have := hs.at (k := .i64) Tryz.underlying53 Qjk (by decide) (i := (i : Int)) (by omega) (by omega)
   rw [this]
   have e : (i : Int).toNat * 1 = i := by omega
   rw [e]
 . obtain ⟨f, hf⟩ := hr i hi
   show Q0 Tryz.prog 25 rv i = _
   rw [rd25, hf]
   simp [List.getD, hf]
 . obtain ⟨f, hf⟩ := hr i hi
   exact ⟨f, by simp [List.getD, hf]⟩
theorem Qu0 {g : Get} {n : Nat} {f h : Nat -> V} : ∀ (l : List Nat), (∀ j ∈ l, frz g n (f j) = some (h j)) -> Zb (frz g n) (l.map f) = some (l.map h)
 | [], _ => rfl
 | j :: l, e => by
   simp only [Zlh, Zb, e j (by simp), Qu0 l (fun k hk => e k (by simp [hk]))]
theorem Qlx (g : Get) (m : Nat) (a : Nat -> Int) (d : Nat -> List V) : ∀ n, Zb (frz g (m + 1)) (Qbi a d n) = some (Qbi a d n)
 | 0 => rfl
 | n + 1 => by
   have app : ∀ (l k l' k' : List V), Zb (frz g (m + 1)) l = some l' -> Zb (frz g (m + 1)) k = some k' -> Zb (frz g (m + 1)) (l ++ k) = some (l' ++ k') := by
    intro l
    induction l with
    | nil => intro k l' k' h1 h2; cases h1; exact h2
    | cons x l ih =>
      intro k l' k' h1 h2
      simp only [Zb, Zmj] at h1 ⊢
      cases hx : frz g (m + 1) x with
      | none => rw [hx] at h1; cases h1
      | some y =>
        rw [hx] at h1
        cases hl : Zb (frz g (m + 1)) l with
        | none => rw [hl] at h1; cases h1
        | some ys => rw [hl] at h1; cases h1; rw [ih k ys k' hl h2]; rfl
   rw [Qcm]
   exact app _ _ _ _ (Qlx g m a d n) rfl
theorem Qmv (k : Nat) (H : Heap) (r : Nat -> List V) (Z : List V) (a : Nat -> Int) (d : Nat -> List V) (n : Nat) (hrow : ∀ i, i < 256 -> Yf (r i)) (hZ : Z.length = 65536) (hg : Qb H (k + 1) 20 = some (.cells (X6 r Z 256))) :
 frz (Qb H) depth (.agg [.gS (k + 1) 33 (Yv (k + 1) 256) 256 1, Kc k a d n]) = some (encD r a d n) := by
 have hr : ∀ j, j < 256 -> (r j).length = 256 := fun j hj => (hrow j hj).1
 have hl := Qeo (r := r) hZ (Zk0 256) hr
 have row : ∀ j ∈ List.range 256, frz (Qb H) 10 (.mS (k + 1) 20 (256 * j) 256 (some 256) 1) = some (.iS (r j) 256 true) := by
  intro j hj
  have hj' : j < 256 := Zmr.1 hj
  have e : ((X6 r Z 256).drop (256 * j)).take (256 * 1) = r j := Q1z hr hj'
  have := Qj9 (g := Qb H) (f := k + 1) (s := 20) (o := 256 * j) (len := 256) (esz := 1) (cap := some 256) (xs := X6 r Z 256) (m := 8) hg (by rw [hl]; omega) (by rw [e]; exact Qnc _ _ (hrow j hj').2)
  rw [e] at this
  exact this
 have rows := Qu0 (List.range 256) row
 have g1 : frz (Qb H) 11 (.gS (k + 1) 33 (Yv (k + 1) 256) 256 1) = some (.iS ((List.range 256).map fun j => .iS (r j) 256 true) 256 false) := by
  have e : frz (Qb H) 11 (.gS (k + 1) 33 (Yv (k + 1) 256) 256 1) = (Zb (frz (Qb H) 10) (Yv (k + 1) 256)).map fun cs => .iS cs 256 false := rfl
  rw [e]
  unfold Yv
  rw [rows]; rfl
 have g2 : frz (Qb H) 11 (Kc k a d n) = some (if n = 0 then .nS else .iS (Qbi a d n) n false) := by
  unfold Kc
  by_cases h : n = 0
  . simp only [h, if_true]; rfl
  . simp only [h, if_false]
    have e : frz (Qb H) 11 (.gS k 58 (Qbi a d n) n 2) = (Zb (frz (Qb H) 10) (Qbi a d n)).map fun cs => .iS cs n false := rfl
    rw [e, Qlx]; rfl
 have e : frz (Qb H) depth (.agg [.gS (k + 1) 33 (Yv (k + 1) 256) 256 1, Kc k a d n]) = (Zb (frz (Qb H) 11) [.gS (k + 1) 33 (Yv (k + 1) 256) 256 1, Kc k a d n]).map .agg := rfl
 rw [e]
 simp only [Zb, g1, g2, Zkw]
 rfl
theorem Q81 (rv : List V) (fl : Bool) (r : Nat -> List V) (hl : rv.length = 256) (hr : ∀ i, i < 256 -> ∃ f, rv[i]? = some (.iS (r i) 256 f)) (hrow : ∀ i, i < 256 -> Yf (r i)) (wv : V) (cs : List V) (n : Nat) (hv : Zq 2 wv cs n) (hn : n <= 4096) (a : Nat -> Int) (d : Nat -> List V)
 (hwait : ∀ j, j < n -> cs[2 * j]? = some (.int .i64 (a j)) /\ ∃ fl, cs[2 * j + 1]? = some (.iS (d j) 256 fl)) (hdata : ∀ j, j < n -> Yf (d j)) :
 Fz Tryz.prog Qz 77 [.agg [.iS rv 256 fl, wv]] fun x => x = encD r a d n := by
 refine Fz.of_cw ((Qy1 [] WF.nil _ wv r (Qlh [] rv fl r hl hr hrow) cs n hv hn a d hwait hdata).mono ?_)
 rintro rr H' ⟨rfl, rfl⟩
 refine ⟨_, rfl, _, ?_, rfl⟩
 exact Qmv 0 _ r (zerosN [.int .u8 0] 65536) a d n hrow (Qbn _ _) rfl
end
section
set_option maxRecDepth 100000
open Go.AM
attribute [local irreducible] U W
theorem Q3c (a : Int) (h0 : 0 <= a) (h1 : a < 256) : Fz Tryz.prog Qz 126 [.int .i64 a] fun x => x = .bool true := by
 refine Jy Tryz.func126 rfl ?_
 have cv : ∀ g, convertV Tryz.prog g 3 218 (.int .i64 a) = some (.val (.int .u64 a) none) := fun g => by
  have w : (IntKind.u64).wrap a = a := by
   simp only [IntKind.wrap, IntKind.bits, IntKind.signed, Zni, Zkz, if_false]; omega
  simp only [convertV, Tryz.underlying3, Tryz.underlying218, w]
 have c1 : decide (a < 256) = true := Znv h1
 simp only [Qn, Qh, Qg, Ql, Qa, Qd, nov, gd, rho, Qe, wr, simprocAttr, Qj, ↓Qi, Tryz.ntmps126, cv, c1]
 exact W.done (Zx.ret rfl rfl rfl)
theorem Q2s (rv : List V) (fl : Bool) (r : Nat -> List V) (hl : rv.length = 256) (hr : ∀ i, i < 256 -> ∃ f, rv[i]? = some (.iS (r i) 256 f)) (wv : V) (cs : List V) (n : Nat) (hv : Zq 2 wv cs n) (hn : n <= 4096) (a : Nat -> Int) (d : Nat -> List V)
 (hwait : ∀ j, j < n -> cs[2 * j]? = some (.int .i64 (a j)) /\ ∃ fl, cs[2 * j + 1]? = some (.iS (d j) 256 fl)) (ha : ∀ j, j < n -> 0 <= a j /\ a j < 256) :
 CW Tryz.prog Qz 65 [.agg [.iS rv 256 fl, wv]] [] fun x _ => x = .ret (.int .i64 0) := by
 refine Xk Tryz.func65 rfl ?_
 have hs : Zq 1 (.iS rv 256 fl) rv 256 := Zq.mk (by rw [hl])
 have lw := hv.len Tryz.underlying54
 have wsc : wv.scalar = true := Qiv hv
 have c4 : decide ((n : Int) <= 4096) = true := Znv (by omega)
 have e256 : (((256 : Nat) : Int) == 256) = true := rfl
 have ldr : ∀ i : Nat, i < 256 -> ∃ f, ∀ g, ldV Tryz.prog 25 g (.iptr rv ((i : Int).toNat * 1)) = some (.iS (r i) 256 f) := fun i hi => by
  obtain ⟨f, hf⟩ := hr i hi
  refine ⟨f, fun g => ?_⟩
  have e : (i : Int).toNat * 1 = i := by omega
  rw [e]
  show Q0 Tryz.prog 25 rv i = _
  rw [rd25, hf]
 simp only [Qn, Qh, Qg, Ql, Qa, Qd, nov, gd, rho, Qe, wr, simprocAttr, Qj, ↓Qi, Tryz.ntmps65, ta, new, Qb, hset, Qu, Qs, Qp, splice, zerosN, Qo, Qr, Qk, V.pure, Qq, wsc, lw, c4, e256]
 refine W.ul ?_
 refine W.loopS (kt := [1, 3, 19, 20, 21]) rfl (fun i : Nat => Qse (.ptr 0 1 0) (.bool true) (.iS rv 256 fl) (.int .i64 ((256 : Nat) : Int)) (.int .i64 i)) (fun i => [[(1, .cells [.iS rv 256 fl, wv])]]) (fun i => i <= 256) (fun i => 256 - i) ?_ 0 (by omega) rfl rfl
 rintro i hi
 simp only [Qse]
 by_cases h : i < 256
 . have c1 : decide ((i : Int) < ((256 : Nat) : Int)) = true := Znv (by omega)
   have w1 := B0 (i := i) (by omega)
   obtain ⟨f, hf⟩ := ldr i h
   have at1 := hs.at (k := .i64) Tryz.underlying53 Qjk (by decide) (i := (i : Int)) (by omega) (by omega)
   simp only [Qn, Qh, Qg, Ql, Qa, Qd, nov, gd, rho, Qe, wr, Nat.reduceAdd, Nat.reduceSub, if_true, if_false, reduceIte, reduceCtorEq, Nat.reduceLT, Nat.reduceEqDiff, Nat.reduceMul, Nat.reduceLeDiff, Qj, Int.reduceBEq, Int.reduceBNe, Int.reduceLT, Int.reduceLE, ↓Qi, c1, at1, hf, ta, w1, e256]
   exact W.done ⟨i + 1, rfl, rfl, by omega, by omega⟩
 . have c1 : decide ((i : Int) < ((256 : Nat) : Int)) = false := Znw (by omega)
   have hi2 : i = 256 := by omega
   subst hi2
   simp only [Qn, Qh, Qg, Ql, Qa, Qd, nov, gd, rho, Qe, wr, simprocAttr, Qj, ↓Qi, c1]
   refine W.done ?_
   simp only [Qn, Qh, Qg, Ql, Qa, Qd, nov, gd, rho, Qe, wr, simprocAttr, Qj, ↓Qi, ta, new, Qb, hset, Qu, Qs, Qp, splice, zerosN, Qo, Qr, Qk, V.pure, Qq, wsc, lw]
   refine W.ul ?_
   refine W.loop (fun (i : Nat) t H => ∃ F : AM.Frame, Bi [3, 33, 34, 35] t 0 = Qlz (.bool true) wv (.int .i64 n) (.int .i64 i) /\ i <= n /\ H = [F] /\ (F = [(1, .cells [.iS rv 256 fl, wv])] \/ ∃ x, F = [(1, .cells [.iS rv 256 fl, wv]), (7, .cells x)])) (fun i => n - i) ?_ 0 ⟨_, rfl, by omega, rfl, .inl rfl⟩ rfl
   rintro i t H ⟨F, ht, hi, rfl, hF⟩
   have hd : ([F] : Heap).modify 0 (J8 fun s => [7].contains s) = [[(1, .cells [.iS rv 256 fl, wv])]] := by
    rcases hF with rfl | ⟨x, rfl⟩ <;> rfl
   have wvr : wv.refs (fun f s => f == 0 && [7].contains s) = false := hv.noRefs _
   refine ⟨_, _, J4 (kt := [3, 33, 34, 35]) (ds := [7]) rfl ?_ ?_, ?_⟩
   . rw [ht]
     simp only [Qlz, Qx, V.refs, wvr]; simp
   . rw [hd]
     simp only [Zh, Zo, O.refs, Qx, V.refs, wvr]; simp
   rw [ht, hd]
   simp only [Qlz]
   by_cases h : i < n
   . have c1 : decide ((i : Int) < n) = true := Znv (by omega)
     have w1 := B0 (i := i) (by omega)
     obtain ⟨e1, fl2, e2⟩ := hwait i h
     have at1 := hv.at (k := .i64) Tryz.underlying54 Qnk (by decide) (i := (i : Int)) (by omega) (by omega)
     have ldw := Qtm h hv.1 e1 e2
     obtain ⟨m, rfl, hm⟩ := (Q3c (a i) (ha i h).1 (ha i h).2).op (by rfl) rfl
     have hm' : ∀ s H, _ := fun s H => hm 65 0 s H rfl
     simp only [Qn, Qh, Qg, Ql, Qa, Qd, nov, gd, rho, Qe, wr, simprocAttr, Qj, ↓Qi, c1, at1, ldw, ta, new, Qb, hset, Qu, Qs, Qp, splice, zerosN, Qo, Qr, Qk, V.pure, Qq, w1, hm', e256]
     exact W.done ⟨i + 1, ⟨_, rfl, by omega, rfl, .inr ⟨_, rfl⟩⟩, by omega⟩
   . have c1 : decide ((i : Int) < n) = false := Znw (by omega)
     simp only [Qn, Qh, Qg, Ql, Qa, Qd, nov, gd, rho, Qe, wr, simprocAttr, Qj, ↓Qi, c1]
     refine W.done ?_
     simp only [Qn, Qh, Qg, Ql, Qa, Qd, nov, gd, rho, Qe, wr, simprocAttr, Qj, ↓Qi]
     exact W.done (End.ret (v := .int .i64 0) rfl rfl)
end
section
set_option maxRecDepth 100000
open Go.AM
attribute [local irreducible] U W
theorem Q69 : callN Tryz.prog Qz 60 (some 200) [.int .u64 1, .int .u64 256] [] = some (.ret (.tuple [.int .u64 0, .int .u64 256]), []) := by kernel_rfl
theorem mul_fz : Fz Tryz.prog Qz 200 [.int .u64 1, .int .u64 256] fun x => x = .tuple [.int .u64 0, .int .u64 256] :=
 ⟨_, _, _, Yu.2 ⟨60, Q69⟩, Q8s (Qt rfl (Qt rfl rfl)), rfl⟩
theorem Q7a (n m : Nat) (x : Int) : List.replicate n x ++ List.replicate m x = List.replicate (n + m) x := by
 induction n with
 | zero => simp
 | succ n ih => rw [List.replicate_succ, Zmj, ih, Nat.succ_add, List.replicate_succ]
def Ky (n : Nat) : List Int := List.replicate n 256 ++ List.replicate (256 - n) 0
theorem By {n : Nat} (h : n <= 256) : (Ky n).length = 256 := by simp [Ky]; omega
theorem Qz5 {n m : Nat} (h : m <= n) : (Q3 (Ky n)).take m = Q3 (List.replicate m 256) := by
 have : (List.replicate n (256 : Int) ++ List.replicate (256 - n) 0).take m = List.replicate m 256 := by
  rw [List.take_append_of_le_length (by simp; exact h), List.take_replicate]; congr 1; omega
 rw [Q3, <- List.map_take, Ky, this]; rfl
theorem Qkt {n m : Nat} (h : n + m <= 256) : splice (Q3 (Ky n)) n (Q3 (List.replicate m 256)) = Q3 (Ky (n + m)) := by
 have e : splice (Ky n) n (List.replicate m 256) = Ky (n + m) := by
  unfold splice Ky
  rw [List.take_left' (by simp), Znq, List.drop_append, Zm2 (by simp), Znq, Zmm, List.drop_replicate, Q7a]
  congr 2; omega
 rw [<- e]
 simp [splice, Q3]
theorem Q8v {P : Program} {u e : TypeId} (hu : P.underlying u = some (.slice e)) {q : Nat} (hs : sz P e = some q) {g : Get} {f s o len c n : Nat} {k : IntKind} (h : n <= c) (h2 : 0 < c) (h3 : len <= c) :
 Z4 P g u (.mS f s o len (some c) q) none (some (.int k n)) none = some (.mS f s o n (some c) q) := by
 simp only [Z4, Bb, hu, hs, if_true, Qn3, B3, Znb, Zmw]
 rw [if_pos ⟨by omega, by omega, by omega, by omega, by omega, by omega, by simp⟩]
 simp
theorem Q1d : Fz Tryz.prog Qz 96 [.iS [.int .i64 256] 1 true, .int .i64 256] fun x => x = .iS (Q3 (Ky 256)) 256 true := by
 refine Jy Tryz.func96 rfl ?_
 obtain ⟨m, rfl, hm⟩ := mul_fz.op (by rfl) rfl
 have hm' : ∀ s H, _ := fun s H => hm 96 0 s H rfl
 have cv : ∀ g, convertV Tryz.prog g 3 218 (.int .i64 ((1 : Nat) : Int)) = some (.val (.int .u64 1) none) := fun g => by simp only [convertV, Tryz.underlying3, Tryz.underlying218]; rfl
 have cv2 : ∀ g, convertV Tryz.prog g 3 218 (.int .i64 256) = some (.val (.int .u64 256) none) := fun g => by simp only [convertV, Tryz.underlying3, Tryz.underlying218]; rfl
 have cv3 : ∀ g, convertV Tryz.prog g 218 3 (.int .u64 256) = some (.val (.int .i64 256) none) := fun g => by simp only [convertV, Tryz.underlying3, Tryz.underlying218]; rfl
 have rm : Yw 256 8 = true := by decide
 have hZ : zerosN [V.int .i64 0] 256 = Q3 (Ky 0) := by kernel_rfl
 have hZ' : zerosN [V.int .i64 0] (256 : Int).toNat = Q3 (Ky 0) := hZ
 have c0 : decide ((0 : Int) > 0) = false := rfl
 have c1 : decide ((256 : Int) > 9223372036854775807) = false := rfl
 have cp0 : Qbd Tryz.prog (Qb [[(30, .cells (Q3 (Ky 0)))]]) 46 (.mS 0 30 0 256 (some 256) 1) (.iS [.int .i64 256] 1 true) = some (.val (.int .i64 1) (some (0, 30, .cells (Q3 (Ky 1))))) := by
  have sc : Xy (Qb [[(30, .cells (Q3 (Ky 0)))]]) 1 (.iS [.int .i64 256] 1 true) = some (Q3 (List.replicate 1 256), 1) := rfl
  have hg : Qb [[(30, O.cells (Q3 (Ky 0)))]] 0 30 = some (.cells (Q3 (Ky 0))) := rfl
  simp only [Qbd, Tryz.underlying46, sz3, sc, Qas, hg, if_true]
  have sp := Qkt (n := 0) (m := 1) (by omega)
  have tk : (Q3 (List.replicate 1 256)).take (min 1 256 * 1) = Q3 (List.replicate 1 256) := rfl
  rw [tk, sp, if_pos ⟨by rw [Be, By (by omega)]; decide, rfl⟩]
  rfl
 simp only [Qn, Qh, Qg, Ql, Qa, Qd, nov, gd, rho, Qe, wr, Nat.reduceAdd, Nat.reduceSub, if_true, if_false, reduceIte, reduceCtorEq, Nat.reduceLT, Nat.reduceEqDiff, Nat.reduceMul, Nat.reduceLeDiff, Qj, Int.reduceBEq, Int.reduceBNe, Int.reduceLT, Int.reduceLE, ↓Qi, Tryz.ntmps96, ta, new, Qb, hset, Qu, Qs, Qp, cv, cv2, cv3, hm', c0, c1, Tryz.underlying46, by64, Int.reduceToNat, rm, and_self, hZ, hZ', Qr0, cp0, Int.reduceGT]
 refine W.ul ?_
 refine W.loopS (kt := [7, 8]) rfl (fun n : Nat => Q5q (.mS 0 30 0 256 (some 256) 1) (.int .i64 n)) (fun n => [[(30, .cells (Q3 (Ky n)))]]) (fun n => 1 <= n /\ n <= 256) (fun n => 256 - n) ?_ 1 (by omega) rfl rfl
 rintro n ⟨h1, h2⟩
 simp only [Q5q]
 have len := fun g => len_m (P := Tryz.prog) Tryz.underlying46 (f := 0) (s := 30) (o := 0) (len := 256) (esz := 1) (cap := some 256) g
 by_cases h : n < 256
 . have c2 : decide ((n : Int) < ((256 : Nat) : Int)) = true := Znv (by omega)
   have sl1 : ∀ g, Z4 Tryz.prog g 46 (.mS 0 30 0 256 (some 256) 1) (some (.int .i64 n)) none none = some (.mS 0 30 n (256 - n) (some (256 - n)) 1) := fun g => by
    have := Quu (P := Tryz.prog) (u := 46) Tryz.underlying46 sz3 (f := 0) (s := 30) (o := 0) (len := 256) (c := 256) (w := n) (k := .i64) (by omega) (by omega) g
    rw [this, if_neg (by omega)]; simp
   have sl2 : ∀ g, Z4 Tryz.prog g 46 (.mS 0 30 0 256 (some 256) 1) none (some (.int .i64 n)) none = some (.mS 0 30 0 n (some 256) 1) := fun g => Q8v Tryz.underlying46 sz3 (by omega) (by omega) (by omega)
   have cp : Qbd Tryz.prog (Qb [[(30, .cells (Q3 (Ky n)))]]) 46 (.mS 0 30 n (256 - n) (some (256 - n)) 1) (.mS 0 30 0 n (some 256) 1) = some (.val (.int .i64 (min n (256 - n) : Nat)) (some (0, 30, .cells (Q3 (Ky (n + min n (256 - n))))))) := by
    have hg : Qb [[(30, O.cells (Q3 (Ky n)))]] 0 30 = some (.cells (Q3 (Ky n))) := rfl
    have hl : (Q3 (Ky n)).length = 256 := by rw [Be, By h2]
    have sc : Xy (Qb [[(30, .cells (Q3 (Ky n)))]]) 1 (.mS 0 30 0 n (some 256) 1) = some (Q3 (List.replicate n 256), n) := by
     simp only [Xy, Qy, hg, Zm4, Zlx, Qz5 (Zk0 n)]
     rw [if_pos ⟨trivial, by rw [hl]; omega⟩]
    have tk : (Q3 (List.replicate n 256)).take (min n (256 - n) * 1) = Q3 (List.replicate (min n (256 - n)) 256) := by
     rw [Zlx, Q3, <- List.map_take, List.take_replicate]
     have : min (min n (256 - n)) n = min n (256 - n) := by omega
     rw [this]; rfl
    simp only [Qbd, Tryz.underlying46, sz3, sc, Qas, hg, if_true, tk]
    rw [Qkt (by omega), if_pos ⟨by rw [hl]; omega, Qn9 _⟩]
   have w1 : (IntKind.i64).wrap ((n : Int) + ((min n (256 - n) : Nat) : Int)) = ((n + min n (256 - n) : Nat) : Int) := by rw [wrap_i64] <;> omega
   simp only [Qn, Qh, Qg, Ql, Qa, Qd, nov, gd, rho, Qe, wr, Nat.reduceAdd, Nat.reduceSub, if_true, if_false, reduceIte, reduceCtorEq, Nat.reduceLT, Nat.reduceEqDiff, Nat.reduceMul, Nat.reduceLeDiff, Qj, Int.reduceBEq, Int.reduceBNe, Int.reduceLT, Int.reduceLE, ↓Qi, len, c2, sl1, sl2, Qr0, cp, new, Qb, hset, Qu, Qs, Qp]
   refine W.opsK (by kernel_rfl) ?_
   simp only [Qn, Qh, Qg, Ql, Qa, Qd, nov, gd, rho, Qe, wr, simprocAttr, Qj, ↓Qi, w1]
   exact W.done ⟨n + min n (256 - n), rfl, rfl, by omega, by omega⟩
 . have c2 : decide ((n : Int) < ((256 : Nat) : Int)) = false := Znw (by omega)
   have hn : n = 256 := by omega
   subst hn
   simp only [Qn, Qh, Qg, Ql, Qa, Qd, nov, gd, rho, Qe, wr, simprocAttr, Qj, ↓Qi, len, c2]
   refine W.done ?_
   simp only [Qn, Qh, Qg, Ql, Qa, Qd, nov, gd, rho, Qe, wr, simprocAttr, Qj, ↓Qi]
   refine W.done (Zx.normal (v := .mS 0 30 0 256 (some 256) 1) rfl ?_ rfl)
   have e : ((Q3 (Ky 256)).drop 0).take (256 * 1) = Q3 (Ky 256) := by
    rw [Zm4, Znn]; rw [Be, By (Zk0 _)]; exact Zk0 _
   have := Qj9 (g := Qb [[(30, O.cells (Q3 (Ky 256)))]]) (f := 0) (s := 30) (o := 0) (len := 256) (esz := 1) (cap := some 256) (m := 10) rfl (by rw [Be, By (Zk0 _)]; exact Zk0 _) (by rw [e]; exact Qez _ _ _)
   rw [e] at this
   exact this
end
section
set_option maxRecDepth 100000
open Go.AM
attribute [local irreducible] U W
theorem Qyj (x : V) (n : Nat) : zerosN [x] n = List.replicate n x := by
 induction n with
 | zero => rfl
 | succ n ih => show [x] ++ zerosN [x] n = _; rw [ih, List.replicate_succ]; rfl
theorem Qvo (x : V) : X6 (fun _ => List.replicate 256 x) (zerosN [x] 65536) 256 = zerosN [x] 65536 := by
 rw [Qyj]
 refine List.eq_replicate_iff.2 ⟨?_, ?_⟩
 . exact Qeo (by rw [Znq]) (Zk0 _) (fun j _ => by rw [Znq])
 . intro b hb
   unfold X6 at hb
   rcases Zlq.1 hb with h | h
   . obtain ⟨l, hl, hbl⟩ := List.mem_flatten.1 h
     obtain ⟨j, _, rfl⟩ := Zlo.1 hl
     exact (List.mem_replicate.1 hbl).2
   . exact (List.mem_replicate.1 (Zm8 h)).2
def newV : V := .agg [.iS (List.replicate 256 (.iS (List.replicate 256 (.int .u8 0)) 256 true)) 256 false, .nS]
theorem Qxn : encD (fun _ => List.replicate 256 (.int .u8 0)) (fun _ => 0) (fun _ => []) 0 = newV := by
 have e : ((List.range 256).map fun j => V.iS ((fun _ => List.replicate 256 (V.int .u8 0)) j) 256 true) = List.replicate 256 (.iS (List.replicate 256 (.int .u8 0)) 256 true) := by
  rw [List.map_const', List.length_range]
 show V.agg [.iS ((List.range 256).map fun j => V.iS ((fun _ => List.replicate 256 (V.int .u8 0)) j) 256 true) 256 false, if 0 = 0 then .nS else _] = _
 rw [e, if_pos rfl]
 rfl
theorem new_fz : Fz Tryz.prog Qz 56 [] fun x => x = newV := by
 refine Jy Tryz.func56 rfl ?_
 obtain ⟨m, rfl, hm⟩ := Q1d.op (by rfl) rfl
 have hm' : ∀ s H, _ := fun s H => hm 56 0 s H rfl
 have hr : ∀ i, i < 256 -> (Ky 256)[i]? = some 256 := fun i hi => by
  have : Ky 256 = List.replicate 256 256 := by simp only [Ky, Nat.sub_self, List.replicate_zero, Zma]
  rw [this, List.getElem?_replicate, if_pos hi]
 have hv : Bu (.iS (Q3 (Ky 256)) 256 true) (Ky 256) := by
  have := Bu.mk (Ky 256) true
  rwa [By (Zk0 _)] at this
 have hwF : WF [[(0, O.cells [.nS, .nS])]] := rfl
 obtain ⟨rr, KK, hcall, rfl, rfl⟩ := Q2h [[(0, .cells [.nS, .nS])]] hwF (.iS (Q3 (Ky 256)) 256 true) (Ky 256) (By (Zk0 _)) hr hv
 have hcall' : callOp Qz (Q5 Tryz.prog Qz) 56 0 (some 3) 95 [.iS (Q3 (Ky 256)) 256 true] [[(0, .cells [.nS, .nS])]] = some (.ret (.gS 1 33 (Yv 1 256) 256 1), [[(0, .cells [.nS, .nS])], [(20, .cells (zerosN [.int .u8 0] 65536)), (33, .grow 256)]]) :=
  Qkj rfl rfl rfl rfl hcall
 generalize hZ : zerosN [V.int .u8 0] 65536 = Z at hcall'
 generalize hR : Yv 1 256 = R at hcall'
 generalize hQ : Q3 (Ky 256) = Q at hm' hcall'
 have mt1 : Qz.mt 56 1 = false := rfl
 simp only [Qn, Qh, Qg, Ql, Qa, Qd, nov, gd, rho, Qe, wr, simprocAttr, Qj, ↓Qi, Tryz.ntmps56, ta, new, Qb, hset, Qu, Qs, Qp, splice, zerosN, Qo, Qr, Qk, V.pure, Qq, mt1, hm', hcall', Tryz.underlying46, sz3, zc3]
 refine W.done (Zx.ret (v := .agg [.gS 1 33 R 256 1, .nS]) ?_ ?_ rfl)
 . exact Qqo (f := 0) (s := 0) (o := 0) (xs := [.gS 1 33 R 256 1, .nS]) rfl rfl rfl (by rw [rd56]; rfl)
 rw [<- Qxn, <- hR]
 refine Qmv 0 _ (fun _ => List.replicate 256 (.int .u8 0)) (zerosN [.int .u8 0] 65536) (fun _ => 0) (fun _ => []) 0 (fun i _ => ⟨by rw [Znq], by
  rw [Zln]; intro x hx; rw [(List.mem_replicate.1 hx).2]; rfl⟩) (Qbn _ _) ?_
 rw [Qvo, hZ]; rfl
end
end Go.Proofs.YteagpfbdmiihaaaGreatDoor
