/- This file holds in one the texts D2, D3, D4, D5; each says at its head what it proves. -/
import Derived.Test.YtafhcdagifopeaaGreatDoorT31
set_option linter.unusedSimpArgs false
set_option linter.unusedVariables false
namespace Go.Proofs.YtafhcdagifopeaaGreatDoor
section
set_option maxRecDepth 100000
open Go.AM
attribute [local irreducible] U W
def Qpg : V -> Bool
 | .int _ _ => true
 | _ => false
def J3 (c : List V) : Prop := c.length = 256 /\ c.all Qpg = true
theorem Qsc {x : V} (h : Qpg x = true) : x.scalar = true := by cases x <;> first | rfl | cases h
theorem Qkg {c : List V} (h : c.all Qpg = true) : c.all V.scalar = true := by
 rw [Zjk] at h ⊢
 exact fun x hx => Qsc (h x hx)
theorem Qph (p : Nat -> Nat -> Bool) : ∀ {c : List V}, c.all Qpg = true -> Qx p c = false
 | [], _ => rfl
 | x :: c, h => by
   simp only [List.all_cons, Zjj] at h
   simp only [Qx, Qph p h.2, Bool.or_false]
   cases x <;> first | rfl | (cases h.1)
theorem Q4k (K : Heap) (c : List V) (fl : Bool) (hc : J3 c) :
 CW Tryz.prog Qz 53 [.iS c 256 fl] K fun r K' => r = .ret (.mS K.length 7 0 256 none 1) /\ K' = K ++ [[(5, .cells []), (7, .cells c)]] := by
 refine Xm Tryz.func53 rfl ?_
 have nn := Qf3 (P := Tryz.prog) (t := 26) Tryz.underlying26 (x := .tmp 3) (y := .const (.slice none 0 0)) (cs := c) (n := 256) (f := fl)
 have mt5 : Qz.mt 53 5 = true := rfl
 have mt7 : Qz.mt 53 7 = true := rfl
 have sc : ∀ g, Qy g 1 (.iS c 256 fl) = some (c, 256) := fun g => by simp [Qy, hc.1]
 have s5 : hset (K ++ [[]]) K.length 5 (.cells []) = K ++ [[(5, .cells [])]] := by rw [Km]; rfl
 have n5 : Qb (K ++ [[]]) K.length 5 = none := by rw [Jp]; rfl
 have n7 : Qb (K ++ [[(5, O.cells [])]]) K.length 7 = none := by rw [Jp]; rfl
 have g5 : Qb (K ++ [[(5, O.cells [])]]) K.length 5 = some (.cells []) := by rw [Jp]; rfl
 have ap : Zl Tryz.prog (Qz.mt 53) K.length (Qb (K ++ [[(5, O.cells [])]])) (some 7) 26 26 (.mS K.length 5 0 0 (some 0) 1) (.iS c 256 fl) = some (.val (.mS K.length 7 0 256 none 1) (some (K.length, 7, .cells c))) := by
  simp only [Zl, Tryz.underlying26, sz5, by8, zc5, Y9, sc, appendTo, g5]
  simp [grown, mt7, new, n7, Qkg hc.2, Yq]
 have s7 : hset (K ++ [[(5, O.cells [])]]) K.length 7 (.cells c) = K ++ [[(5, .cells []), (7, .cells c)]] := by rw [Km]; rfl
 simp only [Qn, Qg, Qf, Ql, Qa, Qc, nov, gd, rho, Qd, wr, Nat.reduceAdd, Nat.reduceSub, if_true, if_false, reduceIte, reduceCtorEq, Tryz.ntmps53, nn, mt5, new, n5, s5, Yg, ap, s7, Tryz.underlying26, sz5, zc5, splice, zerosN, Qo, Qr, Qk, V.pure, Nat.reduceMul, Nat.reduceLeDiff, Qq]
 refine W.done (End.ret (v := .mS K.length 7 0 256 none 1) rfl ?_)
 rw [Qae (by simp [V.refs])]
 exact ⟨rfl, rfl⟩
theorem Qlm (g : Get) (n : Nat) : ∀ {c : List V}, c.all Qpg = true -> Zc (frz g (n + 1)) c = some c
 | [], _ => rfl
 | x :: c, h => by
   simp only [List.all_cons, Zjj] at h
   have hx : frz g (n + 1) x = some x := by cases x <;> first | rfl | (cases h.1)
   simp only [Zc, hx, Qlm g n h.2]
theorem Qjq {g : Get} {f s o len esz m : Nat} {cap : Option Nat} {xs : List V} (hg : g f s = some (.cells xs)) (hl : o + len * esz <= xs.length) (hx : Zc (frz g (m + 1)) ((xs.drop o).take (len * esz)) = some ((xs.drop o).take (len * esz))) :
 frz g (m + 2) (.mS f s o len cap esz) = some (.iS ((xs.drop o).take (len * esz)) len (cap == some len)) := by
 have e : frz g (m + 2) (.mS f s o len cap esz) = (match g f s with
  | some (.cells xs) => if o + len * esz <= xs.length then (Zc (frz g (m + 1)) ((xs.drop o).take (len * esz))).map fun cs => .iS cs len (cap == some len) else none
  | _ => none) := rfl
 rw [e, hg]
 simp only [hl, if_true, hx, Zit]
theorem Q4y (c : List V) (fl : Bool) (hc : J3 c) : Fz Tryz.prog Qz 53 [.iS c 256 fl] fun r => r = .iS c 256 false := by
 refine Fz.of_cw ((Q4k [] c fl hc).mono ?_)
 rintro r H' ⟨rfl, rfl⟩
 have e : (c.drop 0).take (256 * 1) = c := by
  rw [List.drop_zero, Zli (Nat.le_of_eq hc.1)]
 have hf := Qjq (g := Qb ([] ++ [[(5, O.cells []), (7, O.cells c)]])) (f := 0) (s := 7) (o := 0) (len := 256) (esz := 1) (cap := none) (xs := c) (m := 10) rfl (by rw [hc.1]; exact Zix _) (by rw [e]; exact Qlm _ _ hc.2)
 exact ⟨_, rfl, _, hf, by rw [e]; rfl⟩
structure Qnq (K : Heap) (bv : V) (r : Nat -> List V) : Prop where
 len : ∀ g, Y2 Tryz.prog g 22 bv = some (.int .i64 256)
 ex : ∃ p q : Nat -> V, (∀ i : Nat, i < 256 -> Q8 Tryz.prog 22 bv (.int .i64 (i : Int)) = some (p i)) /\ (∀ i, i < 256 -> ∀ G, ldV Tryz.prog 26 (Qb (K ++ G)) (p i) = some (q i)) /\ ∀ i, i < 256 -> ∃ fl, q i = .iS (r i) 256 fl
 rows : ∀ i, i < 256 -> J3 (r i)
 refs : bv.refs (fun f _ => Nat.ble K.length f) = false
 cells : bv.cells = some [bv]
 sc : bv.scalar = true
end
section
set_option maxRecDepth 100000
open Go.AM
attribute [local irreducible] U W
theorem Qis {esz n : Nat} {v : V} {cells : List V} (h : Zo esz v cells n) : v.scalar = true := by
 obtain ⟨_, ⟨rfl, _⟩ | ⟨f, rfl⟩⟩ := h <;> rfl
def rep (i : Nat) : List Int := List.replicate i 256
theorem Ql6 (i : Nat) : (rep i).length = i := by simp [rep]
theorem Q7f {n i : Nat} (h : i < n) : (rep n)[i]? = some 256 := by
 unfold rep; rw [List.getElem?_replicate, if_pos h]
theorem Q4f (i : Nat) : rep (i + 1) = rep i ++ [256] := by simp [rep, List.replicate_succ']
def Qey (k i : Nat) : V := if i = 0 then .nS else .gS k 21 (Q3 (rep i)) i 1
def Qgf (bv wv : V) (i : Nat) : AM.Frame := if i = 0 then [(1, .cells [bv, wv]), (2, .cells [.nS, .nS])] else [(1, .cells [bv, wv]), (2, .cells [.nS, .nS]), (21, .grow i)]
theorem Qz7 (K : Heap) (bv wv : V) (i : Nat) (hi : i < 256) :
 Zl Tryz.prog (Qz.mt 141) K.length (Qb (K ++ [Qgf bv wv i])) (some 21) 32 32 (Qey K.length i) (.iS [.int .i64 256] 1 true) =
  some (.val (Qey K.length (i + 1)) (some (K.length, 21, .grow (i + 1)))) := by
 have g21 : Qb (K ++ [Qgf bv wv i]) K.length 21 = if i = 0 then none else some (.grow i) := by
  rw [Jp]
  show Qu (Qgf bv wv i) 21 = _
  unfold Qgf; by_cases h : i = 0
  . simp only [h, if_true]; rfl
  . simp only [h, if_false]; rfl
 have sc : ∀ g, Qy g 1 (.iS [.int .i64 256] 1 true) = some ([.int .i64 256], 1) := fun g => rfl
 unfold Qey
 rw [if_neg (Zlk i), Q4f]
 by_cases h : i = 0
 . subst h
   simp only [if_true] at g21 ⊢
   rw [Qf7 Tryz.underlying32 sz3 by64 zc3 rfl Tryz.underlying32 (sc _) (by decide) (by decide), Qb0 rfl rfl g21]
   rfl
 . simp only [h, if_false] at g21 ⊢
   rw [Qff Tryz.underlying32 sz3 by64 zc3 rfl Tryz.underlying32 (sc _) (by decide) (Qas (by omega) (by omega)) rfl rfl g21]
   simp [Q3]
def Xl (r : Nat -> List V) (Z : List V) (i : Nat) : List V := ((List.range i).map r).flatten ++ Z.drop (256 * i)
theorem Qb6 {r : Nat -> List V} : ∀ {i : Nat}, (∀ j, j < i -> (r j).length = 256) -> ((List.range i).map r).flatten.length = 256 * i
 | 0, _ => rfl
 | i + 1, h => by
   rw [Zlj, Zlg, Zj0, Zjz, Qb6 (fun j hj => h j (by omega))]
   simp [h i (by omega)]; omega
theorem Qwu (r : Nat -> List V) (Z : List V) : Xl r Z 0 = Z := by simp [Xl]
theorem Qdr {r : Nat -> List V} {Z : List V} (hZ : Z.length = 65536) {i : Nat} (hi : i <= 256) (h : ∀ j, j < 256 -> (r j).length = 256) : (Xl r Z i).length = 65536 := by
 rw [Xl, Zjz, Qb6 (fun j hj => h j (by omega)), Zk0, hZ]; omega
theorem Qse {r : Nat -> List V} {Z : List V} (hZ : Z.length = 65536) {i : Nat} (hi : i < 256) (h : ∀ j, j < 256 -> (r j).length = 256) : splice (Xl r Z i) (256 * i) (r i) = Xl r Z (i + 1) := by
 have hf := Qb6 (r := r) (i := i) (fun j hj => h j (by omega))
 unfold splice Xl
 rw [Zlj, Zlg, Zj0, List.take_left' hf, List.drop_append, hf, Zkz (by rw [hf, h i hi]; omega), h i hi]
 have e : 256 * i + 256 - 256 * i = 256 := by omega
 rw [e, Zjy]
 have e2 : 256 * i + 256 = 256 * (i + 1) := by omega
 rw [e2]
 simp
theorem Qbd (n : Nat) (x : V) : (zerosN [x] n).length = n := by
 induction n with
 | zero => rfl
 | succ n ih => simp [zerosN, ih]
theorem Qz2 (k : Nat) {n i : Nat} (h : i < n) : (Yp k n)[i]? = some (.mS k 20 (256 * i) 256 (some 256) 1) := by simp [Yp, h]
theorem Qxo (k : Nat) : Qk (Yp k 256) = false := by
 show Qk ((List.range (255 + 1)).map fun j => V.mS k 20 (256 * j) 256 (some 256) 1) = false
 rw [List.range_succ_eq_map]; rfl
theorem Q6n {P : Program} {t : TypeId} {g : Get} {cs : List V} {o : Nat} : ldV P t g (.rptr cs o) = Q2 P t cs o := rfl
theorem Q14 {g : Get} {f s o : Nat} {xs c : List V} {fl : Bool} (hc : J3 c) (hg : g f s = some (.cells xs)) (hl : o + 256 <= xs.length) :
 Qap Tryz.prog g 26 (.mS f s o 256 (some 256) 1) (.iS c 256 fl) = some (.val (.int .i64 256) (some (f, s, .cells (splice xs o c)))) := by
 have sc : Xi g 1 (.iS c 256 fl) = some (c, 256) := by simp [Xi, Qy, hc.1]
 have tk : c.take (min 256 256 * 1) = c := Zli (by rw [hc.1]; decide)
 simp only [Qap, Tryz.underlying26, sz5, sc, B4, hg, if_true, tk, Qkg hc.2]
 rw [if_pos ⟨by omega, trivial⟩]
 rfl
theorem Qwf {r : Nat -> List V} {Z : List V} (p : Nat -> Nat -> Bool) (h : ∀ j, j < 256 -> (r j).all Qpg = true) (hz : ∀ p, Qx p Z = false) : Qx p (Xl r Z 256) = false := by
 have app : ∀ a b : List V, Qx p a = false -> Qx p b = false -> Qx p (a ++ b) = false := by
  intro a b ha hb
  induction a with
  | nil => exact hb
  | cons x a iha => simp only [Qx, Zkg, Zk5] at ha ⊢; exact ⟨ha.1, iha ha.2⟩
 have dr : ∀ (l : List V) (m : Nat), Qx p l = false -> Qx p (l.drop m) = false := by
  intro l
  induction l with
  | nil => intro m _; simp [Qx]
  | cons x l ih => intro m h; cases m with
    | zero => exact h
    | succ m => simp only [Qx, Zk5] at h; exact ih m h.2
 have fl : ∀ i, i <= 256 -> Qx p ((List.range i).map r).flatten = false := by
  intro i
  induction i with
  | zero => intro _; rfl
  | succ i ih =>
    intro hi
    rw [Zlj, Zlg, Zj0]
    refine app _ _ (ih (by omega)) ?_
    simp only [Zje, List.map_nil, List.flatten_cons, List.flatten_nil, Zj6]
    exact Qph p (h i (by omega))
 exact app _ _ (fl 256 (Zix _)) (dr _ _ (hz p))
def Qa3 (a : Nat -> Int) (d : Nat -> List V) (i : Nat) : List V := ((List.range i).map fun j => [V.int .i64 (a j), .iS (d j) 256 false]).flatten
theorem Qb8 (a : Nat -> Int) (d : Nat -> List V) (i : Nat) : Qa3 a d (i + 1) = Qa3 a d i ++ [.int .i64 (a i), .iS (d i) 256 false] := by simp [Qa3, Zlj]
def Y4 (k : Nat) (a : Nat -> Int) (d : Nat -> List V) (i : Nat) : V := if i = 0 then .nS else .gS k 58 (Qa3 a d i) i 2
theorem Qku (p : Nat -> Nat -> Bool) (a : Nat -> Int) (d : Nat -> List V) : ∀ i, Qx p (Qa3 a d i) = false
 | 0 => rfl
 | i + 1 => by
   rw [Qb8]
   have app : ∀ a b : List V, Qx p a = false -> Qx p b = false -> Qx p (a ++ b) = false := by
    intro a b ha hb
    induction a with
    | nil => exact hb
    | cons x a iha => simp only [Qx, Zkg, Zk5] at ha ⊢; exact ⟨ha.1, iha ha.2⟩
   exact app _ _ (Qku p a d i) rfl
theorem Q0t (k : Nat) (a : Nat -> Int) (d : Nat -> List V) (i : Nat) : (Y4 k a d i).refs (fun f s => f == k && [9].contains s) = false := by
 unfold Y4; split
 . rfl
 . simp only [V.refs, Qku]; simp
def Qh5 (bv wv g o : V) (i : Nat) : AM.Frame := if i = 0 then [(1, .cells [bv, wv]), (2, .cells [g, o]), (21, .grow 256)] else [(1, .cells [bv, wv]), (2, .cells [g, o]), (21, .grow 256), (58, .grow i)]
def Qpw (bv wv g o : V) (y : List V) (i : Nat) : AM.Frame := if i = 0 then [(1, .cells [bv, wv]), (2, .cells [g, o]), (21, .grow 256)] else [(1, .cells [bv, wv]), (2, .cells [g, o]), (9, .cells y), (21, .grow 256), (58, .grow i)]
theorem Q31 (bv wv g o : V) (y : List V) (i : Nat) : J7 (fun s => [9].contains s) (Qpw bv wv g o y i) = Qh5 bv wv g o i := by
 unfold Qh5 Qpw; split <;> rfl
theorem Qvh {cs : List V} {n i : Nat} {a : Int} {c : List V} {fl : Bool} (h : i < n) (hl : cs.length = n * 2) (e1 : cs[2 * i]? = some (.int .i64 a)) (e2 : cs[2 * i + 1]? = some (.iS c 256 fl)) :
 Q2 Tryz.prog 242 cs ((i : Int).toNat * 2) = some (.agg [.int .i64 a, .iS c 256 fl]) := by
 have e : (i : Int).toNat * 2 = 2 * i := by omega
 rw [e, Q4t, if_pos (by omega)]
 have g1 := Zj3.1 e1
 have g2 := Zj3.1 e2
 obtain ⟨l1, g1⟩ := g1
 obtain ⟨l2, g2⟩ := g2
 rw [Zlh l1, Zkw, Zlh l2, Zkw, List.take_zero, g1, g2]
def Qed (bv wv g o : V) (y : List V) (i : Nat) : AM.Frame := if i = 0 then [(1, .cells [bv, wv]), (2, .cells [g, o]), (9, .cells y), (21, .grow 256)] else [(1, .cells [bv, wv]), (2, .cells [g, o]), (9, .cells y), (21, .grow 256), (58, .grow i)]
def twF5 (bv wv g o : V) (y : List V) (i : Nat) : AM.Frame := [(1, .cells [bv, wv]), (2, .cells [g, o]), (9, .cells y), (21, .grow 256), (58, .grow (i + 1))]
theorem byW : byt Tryz.prog 242 = some 32 := by kernel_rfl
theorem Q1g (K : Heap) (bv wv g : V) (y : List V) (a : Nat -> Int) (d : Nat -> List V) (G : Heap) (i : Nat) (hi : i < 4096) :
 Zl Tryz.prog (Qz.mt 141) K.length (Qb (K ++ Qed bv wv g (Y4 K.length a d i) y i :: G)) (some 58) 23 23 (Y4 K.length a d i) (.iS [.int .i64 (a i), .iS (d i) 256 false] 1 true) =
  some (.val (Y4 K.length a d (i + 1)) (some (K.length, 58, .grow (i + 1)))) := by
 have g58 : Qb (K ++ Qed bv wv g (Y4 K.length a d i) y i :: G) K.length 58 = if i = 0 then none else some (.grow i) := by
  rw [Jp]
  show Qu (Qed bv wv g _ y i) 58 = _
  unfold Qed; by_cases h : i = 0
  . simp only [h, if_true]; rfl
  . simp only [h, if_false]; rfl
 have sc : ∀ g, Qy g 2 (.iS [.int .i64 (a i), .iS (d i) 256 false] 1 true) = some ([.int .i64 (a i), .iS (d i) 256 false], 1) := fun g => rfl
 unfold Y4 at g58 ⊢
 rw [if_neg (Zlk i), Qb8]
 by_cases h : i = 0
 . subst h
   simp only [if_true] at g58 ⊢
   rw [Qf7 Tryz.underlying23 Qma byW Qyk rfl Tryz.underlying23 (sc _) (by decide) (by decide), Qb0 rfl rfl g58]
   rfl
 . simp only [h, if_false] at g58 ⊢
   rw [Qff Tryz.underlying23 Qma byW Qyk rfl Tryz.underlying23 (sc _) (by decide) (Qas (by omega) (by omega)) rfl rfl g58]
theorem Qqi {P : Program} {F : Func} {t : List V} {H : Heap} {a : Nat} {T : TypeId} {f s o : Nat} {xs : List V} {v : V} (hF : F.results.toList = [.cell a T]) (ht : t.getD a .bad = .ptr f s o) (hg : Qb H f s = some (.cells xs)) (hr : Q2 P T xs o = some v) : Qav P F t H = some v := by
 have h1 : Bd P t H (.cell a T) = some v := by
  show (match t.getD a .bad with
   | .ptr f s o => (match Qb H f s with
     | some (.cells xs) => Q2 P T xs o
     | _ => none)
   | _ => none) = _
  rw [ht]
  show (match Qb H f s with
   | some (.cells xs) => Q2 P T xs o
   | _ => none) = _
  rw [hg]; exact hr
 have h2 : Qfm P t H [.cell a T] = some [v] := by
  show (match Bd P t H (.cell a T), (some [] : Option (List V)) with
   | some v, some vs => some (v :: vs)
   | _, _ => none) = _
  rw [h1]
 unfold Qav
 rw [hF, h2]
theorem Qym (K : Heap) (hw : WF K) (bv wv : V) (r : Nat -> List V) (hb : Qnq K bv r) (cs : List V) (n : Nat) (hv : Zo 2 wv cs n) (hn : n <= 4096) (a : Nat -> Int) (d : Nat -> List V)
 (hwait : ∀ j, j < n -> cs[2 * j]? = some (.int .i64 (a j)) /\ ∃ fl, cs[2 * j + 1]? = some (.iS (d j) 256 fl)) (hdata : ∀ j, j < n -> J3 (d j)) :
 CW Tryz.prog Qz 141 [.agg [bv, wv]] K fun rr K' => rr = .ret (.agg [.gS (K.length + 1) 33 (Yp (K.length + 1) 256) 256 1, Y4 K.length a d n]) /\
  K' = K ++ [Qh5 bv wv (.gS (K.length + 1) 33 (Yp (K.length + 1) 256) 256 1) (Y4 K.length a d n) n, [(20, .cells (Xl r (zerosN [.int .u8 0] 65536) 256)), (33, .grow 256)]] := by
 generalize hZ : zerosN [V.int .u8 0] 65536 = Z
 refine Xm Tryz.func141 rfl ?_
 obtain ⟨p, q, hp, hq, hfl⟩ := hb.ex
 have len := hb.len
 have lw := hv.len Tryz.underlying23
 have wsc : wv.scalar = true := Qis hv
 simp only [Qn, Qg, Qf, Ql, Qa, Qc, nov, gd, rho, Qd, wr, Nat.reduceAdd, Nat.reduceSub, if_true, if_false, reduceIte, reduceCtorEq, Qi, Int.reduceBEq, Int.reduceBNe, Int.reduceLT, Int.reduceLE, ↓Qh, Tryz.ntmps141, ta, new, Ql2, Qu, Qs, Nat.reduceLT, Nat.reduceEqDiff, splice, zerosN, Qo, Qr, Qk, V.pure, Nat.reduceMul, Nat.reduceLeDiff, Qq, hb.sc, wsc, len]
 refine W.ul ?_
 refine W.loopS (kt := [1, 2, 3, 11, 12, 13]) rfl (fun i : Nat => Qy8 (.ptr K.length 1 0) (.ptr K.length 2 0) (Qey K.length i) bv (.int .i64 256) (.int .i64 i)) (fun i => K ++ [Qgf bv wv i]) (fun i => i <= 256) (fun i => 256 - i) ?_ 0 (by omega) rfl rfl
 rintro i hi
 simp only [Qy8]
 by_cases h : i < 256
 . have c1 : decide ((i : Int) < 256) = true := Zlq (by omega)
   have w1 := Bn (i := i) (by omega)
   obtain ⟨fl, hfi⟩ := hfl i h
   have hqi := fun G => hq i h G
   rw [hfi] at hqi
   have ap : Zl Tryz.prog (Qz.mt 141) K.length (Qb (K ++ [Qgf bv wv i])) (some 21) 32 32 (Qey K.length i) (.iS [.int .i64 ((256 : Nat) : Int)] 1 true) = some (.val (Qey K.length (i + 1)) (some (K.length, 21, .grow (i + 1)))) := Qz7 K bv wv i h
   have mt20 : Qz.mt 141 20 = false := rfl
   have s21 : hset (K ++ [Qgf bv wv i]) K.length 21 (.grow (i + 1)) = K ++ [Qgf bv wv (i + 1)] := by
    rw [Km]; show K ++ [Qs (Qgf bv wv i) 21 _] = _
    unfold Qgf; rw [if_neg (Zlk i)]; split <;> rfl
   simp only [Qn, Qg, Qf, Ql, Qa, Qc, nov, gd, rho, Qd, wr, Nat.reduceAdd, Nat.reduceSub, if_true, if_false, reduceIte, reduceCtorEq, Qi, Int.reduceBEq, Int.reduceBNe, Int.reduceLT, Int.reduceLE, ↓Qh, c1, hp i h, hqi, ta, splice, zerosN, Qo, Qr, Qk, V.pure, Nat.reduceMul, Nat.reduceLeDiff, Qq, w1, mt20, Yg, ap, s21, Tryz.underlying32]
   exact W.done ⟨i + 1, rfl, rfl, by omega, by omega⟩
 . have c1 : decide ((i : Int) < 256) = false := Zlr (by omega)
   have hi2 : i = 256 := by omega
   subst hi2
   simp only [Qn, Qg, Qf, Ql, Qa, Qc, nov, gd, rho, Qd, wr, Nat.reduceAdd, Nat.reduceSub, if_true, if_false, reduceIte, reduceCtorEq, Qi, Int.reduceBEq, Int.reduceBNe, Int.reduceLT, Int.reduceLE, ↓Qh, c1]
   refine W.done ?_
   have hwF : WF (K ++ [Qgf bv wv 256]) := by
    refine WF.app hw ?_
    have b1 : bv.refs (fun f _ => Nat.ble (K.length + 1) f) = false := B9 (Ql3 (Nat.le_succ _)) bv hb.refs
    have b2 : wv.refs (fun f _ => Nat.ble (K.length + 1) f) = false := hv.noRefs _
    show Zi (fun f _ => Nat.ble (K.length + 1) f) [[(1, .cells [bv, wv]), (2, .cells [.nS, .nS]), (21, .grow 256)]] = true
    simp only [Zi, Zn, O.refs, Qx, V.refs, b1, b2]
    rfl
   obtain ⟨rr, KK, hcall, rfl, rfl⟩ := Q3w (K ++ [Qgf bv wv 256]) hwF (.iS (Q3 (rep 256)) 256 false) (rep 256) (Ql6 256) (fun i hi => Q7f hi) (by
    have := Ba.mk (rep 256) false
    rwa [Ql6] at this)
   have hk1 : (K ++ [Qgf bv wv 256]).length = K.length + 1 := by simp
   have hcall' : callOp Qz (Q5 Tryz.prog Qz) 141 K.length (some 24) 155 [Qey K.length 256] (K ++ [Qgf bv wv 256]) =
    some (.ret (.gS (K.length + 1) 33 (Yp (K.length + 1) 256) 256 1), K ++ [Qgf bv wv 256, [(20, .cells (zerosN [.int .u8 0] 65536)), (33, .grow 256)]]) := by
    refine Qjw rfl rfl rfl (args' := [.iS (Q3 (rep 256)) 256 false]) ?_ ?_
    . have e : Qey K.length 256 = .gS K.length 21 (Q3 (rep 256)) 256 1 := rfl
      rw [e]
      have f1 : frz (fun _ _ => none) 12 (.gS K.length 21 (Q3 (rep 256)) 256 1) = (Zc (frz (fun _ _ => none) 11) (Q3 (rep 256))).map fun cs => .iS cs 256 false := rfl
      show Zc (frz (fun _ _ => none) 12) _ = _
      simp only [Zc, f1, Qev (fun _ _ => none) 10, Zit]
    . rw [hk1] at hcall
      rw [hcall]
      simp
   rw [hZ] at hcall'
   have hF : Qgf bv wv 256 = [(1, .cells [bv, wv]), (2, .cells [.nS, .nS]), (21, .grow 256)] := rfl
   rw [hF] at hcall' ⊢
   simp only [Qn, Qg, Qf, Ql, Qa, Qc, nov, gd, rho, Qd, wr, Nat.reduceAdd, Nat.reduceSub, if_true, if_false, reduceIte, reduceCtorEq, Qi, Int.reduceBEq, Int.reduceBNe, Int.reduceLT, Int.reduceLE, ↓Qh, hcall', ta, new, Ql2, Qu, Qs, Nat.reduceLT, Nat.reduceEqDiff, splice, zerosN, Qo, Qr, Qk, V.pure, Nat.reduceMul, Nat.reduceLeDiff, Qq, hb.sc, wsc, len]
   have hZl : Z.length = 65536 := by rw [<- hZ]; exact Qbd _ _
   have hr : ∀ j, j < 256 -> (r j).length = 256 := fun j hj => (hb.rows j hj).1
   refine W.ul ?_
   refine W.loopS (kt := [1, 2, 27, 28, 29]) rfl (fun i : Nat => Qyc (.ptr K.length 1 0) (.ptr K.length 2 0) bv (.int .i64 256) (.int .i64 i))
    (fun i => K ++ [[(1, .cells [bv, wv]), (2, .cells [.gS (K.length + 1) 33 (Yp (K.length + 1) 256) 256 1, .nS]), (21, .grow 256)], [(20, .cells (Xl r Z i)), (33, .grow 256)]]) (fun i => i <= 256) (fun i => 256 - i) ?_ 0 (by omega) rfl (by rw [Qwu])
   rintro i hi
   simp only [Qyc]
   by_cases h : i < 256
   . have c1 : decide ((i : Int) < 256) = true := Zlq (by omega)
     have w1 := Bn (i := i) (by omega)
     obtain ⟨fl, hfi⟩ := hfl i h
     have hqi := fun G => hq i h G
     rw [hfi] at hqi
     have at2 := at_r (P := Tryz.prog) (u := 22) (k := .i64) Tryz.underlying22 Qi1 (f := K.length + 1) (s := 33) (len := 256) (i := (i : Int)) (Qxo (K.length + 1)) (by omega) (by omega)
     have gr : (Yp (K.length + 1) 256)[(i : Int).toNat * 1]? = some (.mS (K.length + 1) 20 (256 * i) 256 (some 256) 1) := by
      have e : (i : Int).toNat * 1 = i := by omega
      rw [e]; exact Qz2 _ h
     have hlen := Qdr (r := r) hZl hi hr
     have cp := fun (g : Get) (hg : g (K.length + 1) 20 = some (.cells (Xl r Z i))) => Q14 (fl := fl) (hb.rows i h) hg (o := 256 * i) (by rw [hlen]; omega)
     have sp := Qse hZl h hr
     rw [sp] at cp
     generalize hD : Xl r Z i = D at cp ⊢
     generalize hD2 : Xl r Z (i + 1) = D2 at cp ⊢
     have cp' := cp (Qb (K ++ [[(1, .cells [bv, wv]), (2, .cells [.gS (K.length + 1) 33 (Yp (K.length + 1) 256) 256 1, .nS]), (21, .grow 256)], [(20, .cells D), (33, .grow 256)]])) (by rw [Qnb]; rfl)
     generalize hR : Yp (K.length + 1) 256 = R at at2 gr cp' ⊢
     simp only [Qn, Qg, Qf, Ql, Qa, Qc, nov, gd, rho, Qd, wr, Nat.reduceAdd, Nat.reduceSub, if_true, if_false, reduceIte, reduceCtorEq, Qi, Int.reduceBEq, Int.reduceBNe, Int.reduceLT, Int.reduceLE, ↓Qh, c1, hp i h, hqi, ta, new, Ql2, Qu, Qs, Nat.reduceLT, Nat.reduceEqDiff, w1, at2, Q6n, gr, Qrt, cp']
     subst hD2
     exact W.done ⟨i + 1, rfl, rfl, by omega, by omega⟩
   have c1 : decide ((i : Int) < 256) = false := Zlr (by omega)
   have hi2 : i = 256 := by omega
   subst hi2
   have hDr : ∀ p : Nat -> Nat -> Bool, Qx p (Xl r Z 256) = false := fun p => Qwf p (fun j hj => (hb.rows j hj).2) (by rw [<- hZ]; exact fun q => Qkq _ _ _ rfl)
   generalize hD : Xl r Z 256 = D at hDr ⊢
   have hRr : ∀ p : Nat -> Nat -> Bool, p (K.length + 1) 20 = false -> Qx p (Yp (K.length + 1) 256) = false := fun p hp => Qmw _ _ _ hp
   generalize hR : Yp (K.length + 1) 256 = R at hRr ⊢
   simp only [Qn, Qg, Qf, Ql, Qa, Qc, nov, gd, rho, Qd, wr, Nat.reduceAdd, Nat.reduceSub, if_true, if_false, reduceIte, reduceCtorEq, Qi, Int.reduceBEq, Int.reduceBNe, Int.reduceLT, Int.reduceLE, ↓Qh, c1]
   refine W.done ?_
   simp only [Qn, Qg, Qf, Ql, Qa, Qc, nov, gd, rho, Qd, wr, Nat.reduceAdd, Nat.reduceSub, if_true, if_false, reduceIte, reduceCtorEq, Qi, Int.reduceBEq, Int.reduceBNe, Int.reduceLT, Int.reduceLE, ↓Qh, ta, new, Ql2, Qu, Qs, Nat.reduceLT, Nat.reduceEqDiff, splice, zerosN, Qo, Qr, Qk, V.pure, Nat.reduceMul, Nat.reduceLeDiff, Qq, hb.sc, wsc, len, lw]
   refine W.ul ?_
   refine W.loop (fun (i : Nat) t H => ∃ y : List V, Bl [2, 43, 44, 45] t 0 = Qml (.ptr K.length 2 0) wv (.int .i64 n) (.int .i64 i) /\ i <= n /\ H = K ++ [Qpw bv wv (.gS (K.length + 1) 33 R 256 1) (Y4 K.length a d i) y i, [(20, .cells D), (33, .grow 256)]] /\ Qx (fun f s => f == K.length && [9].contains s) y = false)
    (fun i => n - i) ?_ 0 ⟨[], rfl, by omega, rfl, rfl⟩ rfl
   rintro i t H ⟨y, ht, hi, rfl, hy⟩
   have hd : (K ++ [Qpw bv wv (.gS (K.length + 1) 33 R 256 1) (Y4 K.length a d i) y i, [(20, .cells D), (33, .grow 256)]]).modify K.length (J7 fun s => [9].contains s) = K ++ [Qh5 bv wv (.gS (K.length + 1) 33 R 256 1) (Y4 K.length a d i) i, [(20, .cells D), (33, .grow 256)]] := by
    have := Qby (J7 fun s => [9].contains s) K [Qpw bv wv (.gS (K.length + 1) 33 R 256 1) (Y4 K.length a d i) y i, [(20, .cells D), (33, .grow 256)]] 0
    exact this.trans (by rw [<- Q31 bv wv _ _ y i]; rfl)
   have bvr : bv.refs (fun f s => f == K.length && [9].contains s) = false := B9 (fun f s h => by simp at h; simp; omega) bv hb.refs
   have wvr : wv.refs (fun f s => f == K.length && [9].contains s) = false := hv.noRefs _
   have Rr := hRr (fun f s => f == K.length && [9].contains s) (by simp)
   have Dr := hDr (fun f s => f == K.length && [9].contains s)
   have or_ := Q0t K.length a d i
   refine ⟨_, _, Ye (kt := [2, 43, 44, 45]) (ds := [9]) rfl ?_ ?_, ?_⟩
   . rw [ht]
     simp only [Qml, Qx, V.refs, wvr]; simp
   . rw [hd, Xt, Qe0 hw (fun f s h => by simp at h; omega)]
     unfold Qh5
     split <;> simp only [Zi, Zn, O.refs, Qx, V.refs, bvr, wvr, Rr, Dr, or_] <;> simp
   rw [ht, hd]
   simp only [Qml]
   by_cases h : i < n
   . have c1 : decide ((i : Int) < n) = true := Zlq (by omega)
     have w1 := Bn (i := i) (by omega)
     obtain ⟨e1, fl, e2⟩ := hwait i h
     have at1 := hv.at (k := .i64) Tryz.underlying23 Qma (by decide) (i := (i : Int)) (by omega) (by omega)
     have ldw := Qvh h hv.1 e1 e2
     obtain ⟨m, rfl, hm⟩ := (Q4y (d i) fl (hdata i h)).op (by rfl) rfl
     have hm' : ∀ s H, _ := fun s H => hm 141 K.length s H rfl
     have n9 : Qb (K ++ [Qh5 bv wv (.gS (K.length + 1) 33 R 256 1) (Y4 K.length a d i) i, [(20, .cells D), (33, .grow 256)]]) K.length 9 = none := by
      rw [Jp]; show Qu (Qh5 bv wv _ _ i) 9 = none; unfold Qh5; split <;> rfl
     have s9 : ∀ x, hset (K ++ [Qh5 bv wv (.gS (K.length + 1) 33 R 256 1) (Y4 K.length a d i) i, [(20, .cells D), (33, .grow 256)]]) K.length 9 (.cells x) = K ++ [Qed bv wv (.gS (K.length + 1) 33 R 256 1) (Y4 K.length a d i) x i, [(20, .cells D), (33, .grow 256)]] := fun x => by
      rw [Km]; show K ++ [Qs (Qh5 bv wv _ _ i) 9 _, _] = _; unfold Qh5 Qed; split <;> rfl
     have s9' : ∀ x z, hset (K ++ [Qed bv wv (.gS (K.length + 1) 33 R 256 1) (Y4 K.length a d i) x i, [(20, .cells D), (33, .grow 256)]]) K.length 9 (.cells z) = K ++ [Qed bv wv (.gS (K.length + 1) 33 R 256 1) (Y4 K.length a d i) z i, [(20, .cells D), (33, .grow 256)]] := fun x z => by
      rw [Km]; show K ++ [Qs (Qed bv wv _ _ x i) 9 _, _] = _; unfold Qed; split <;> rfl
     have g9 : ∀ x, Qb (K ++ [Qed bv wv (.gS (K.length + 1) 33 R 256 1) (Y4 K.length a d i) x i, [(20, .cells D), (33, .grow 256)]]) K.length 9 = some (.cells x) := fun x => by
      rw [Jp]; show Qu (Qed bv wv _ _ x i) 9 = _; unfold Qed; split <;> rfl
     have g2 : ∀ x, Qb (K ++ [Qed bv wv (.gS (K.length + 1) 33 R 256 1) (Y4 K.length a d i) x i, [(20, .cells D), (33, .grow 256)]]) K.length 2 = some (.cells [.gS (K.length + 1) 33 R 256 1, Y4 K.length a d i]) := fun x => by
      rw [Jp]; show Qu (Qed bv wv _ _ x i) 2 = _; unfold Qed; split <;> rfl
     have ap := Q1g K bv wv (.gS (K.length + 1) 33 R 256 1) [.int .i64 (a i), .iS (d i) 256 fl] a d [[(20, .cells D), (33, .grow 256)]] i (by omega)
     have s58 : ∀ x, hset (K ++ [Qed bv wv (.gS (K.length + 1) 33 R 256 1) (Y4 K.length a d i) x i, [(20, .cells D), (33, .grow 256)]]) K.length 58 (.grow (i + 1)) = K ++ [twF5 bv wv (.gS (K.length + 1) 33 R 256 1) (Y4 K.length a d i) x i, [(20, .cells D), (33, .grow 256)]] := fun x => by
      rw [Km]; show K ++ [Qs (Qed bv wv _ _ x i) 58 _, _] = _; unfold Qed twF5; split <;> rfl
     have g2' : ∀ x, Qb (K ++ [twF5 bv wv (.gS (K.length + 1) 33 R 256 1) (Y4 K.length a d i) x i, [(20, .cells D), (33, .grow 256)]]) K.length 2 = some (.cells [.gS (K.length + 1) 33 R 256 1, Y4 K.length a d i]) := fun x => by
      rw [Jp]; rfl
     have s2 : ∀ x o, hset (K ++ [twF5 bv wv (.gS (K.length + 1) 33 R 256 1) (Y4 K.length a d i) x i, [(20, .cells D), (33, .grow 256)]]) K.length 2 (.cells [.gS (K.length + 1) 33 R 256 1, o]) = K ++ [Qpw bv wv (.gS (K.length + 1) 33 R 256 1) o x (i + 1), [(20, .cells D), (33, .grow 256)]] := fun x o => by
      rw [Km]; rfl
     have mt57 : Qz.mt 141 57 = false := rfl
     have scw : (Y4 K.length a d (i + 1)).scalar = true := by unfold Y4; rw [if_neg (Zlk i)]; rfl
     have scw0 : (Y4 K.length a d i).scalar = true := by unfold Y4; split <;> rfl
     have wcl : (Y4 K.length a d (i + 1)).cells = some [Y4 K.length a d (i + 1)] := by unfold Y4; rw [if_neg (Zlk i)]; rfl
     simp only [Qn, Qg, Qf, Ql, Qa, Qc, nov, gd, rho, Qd, wr, Nat.reduceAdd, Nat.reduceSub, if_true, if_false, reduceIte, reduceCtorEq, Qi, Int.reduceBEq, Int.reduceBNe, Int.reduceLT, Int.reduceLE, ↓Qh, c1, at1, ldw, ta, splice, zerosN, Qo, Qr, Qk, V.pure, Nat.reduceMul, Nat.reduceLeDiff, Qq, w1, wcl, new, n9, s9, s9', g9, g2, hm', mt57, Yg, ap, s58, g2', s2, scw, scw0, Tryz.underlying23]
     refine W.opsK (by kernel_rfl) ?_
     simp only [Qn, Qg, Qf, Ql, Qa, Qc, nov, gd, rho, Qd, wr, Nat.reduceAdd, Nat.reduceSub, if_true, if_false, reduceIte, reduceCtorEq, Qi, Int.reduceBEq, Int.reduceBNe, Int.reduceLT, Int.reduceLE, ↓Qh, w1]
     exact W.done ⟨i + 1, ⟨_, rfl, by omega, rfl, by simp [Qx, V.refs]⟩, by omega⟩
   . have c1 : decide ((i : Int) < n) = false := Zlr (by omega)
     have hi2 : i = n := by omega
     subst hi2
     simp only [Qn, Qg, Qf, Ql, Qa, Qc, nov, gd, rho, Qd, wr, Nat.reduceAdd, Nat.reduceSub, if_true, if_false, reduceIte, reduceCtorEq, Qi, Int.reduceBEq, Int.reduceBNe, Int.reduceLT, Int.reduceLE, ↓Qh, c1]
     refine W.done ?_
     simp only [Qn, Qg, Qf, Ql, Qa, Qc, nov, gd, rho, Qd, wr, Nat.reduceAdd, Nat.reduceSub, if_true, if_false, reduceIte, reduceCtorEq, Qi, Int.reduceBEq, Int.reduceBNe, Int.reduceLT, Int.reduceLE, ↓Qh]
     refine W.done (End.ret (v := .agg [.gS (K.length + 1) 33 R 256 1, Y4 K.length a d i]) ?_ ?_)
     . refine Qqi (xs := [.gS (K.length + 1) 33 R 256 1, Y4 K.length a d i]) rfl rfl ?_ (by rw [rd25]; rfl)
       rw [Jp]; show Qu (Qh5 bv wv _ _ i) 2 = _; unfold Qh5; split <;> rfl
     . rw [Qae (by simp [V.refs, Qx])]
       exact ⟨rfl, by rw [<- hR, <- hD]⟩
end
section
set_option maxRecDepth 100000
open Go.AM
attribute [local irreducible] U W
def encD (r : Nat -> List V) (a : Nat -> Int) (d : Nat -> List V) (n : Nat) : V :=
 .agg [.iS ((List.range 256).map fun j => .iS (r j) 256 true) 256 false, if n = 0 then .nS else .iS (Qa3 a d n) n false]
theorem Q1t {r : Nat -> List V} {Z : List V} (h : ∀ j, j < 256 -> (r j).length = 256) {i : Nat} (hi : i < 256) : ((Xl r Z 256).drop (256 * i)).take 256 = r i := by
 have key : ∀ m, m <= 256 -> i < m -> ∀ T : List V, ((((List.range m).map r).flatten ++ T).drop (256 * i)).take 256 = r i := by
  intro m
  induction m with
  | zero => intro _ h; omega
  | succ m ih =>
    intro hm him T
    rw [Zlj, Zlg, Zj0, Zlf]
    by_cases e : i = m
    . subst e
      have hf := Qb6 (r := r) (i := i) (fun j hj => h j (by omega))
      rw [List.drop_append, hf, Nat.sub_self, Zkz (by rw [hf]; exact Zix _)]
      simp only [Zje, List.map_nil, List.flatten_cons, List.flatten_nil, Zj6, Zkj, List.drop_zero]
      exact List.take_left' (h i (by omega))
    . exact ih (by omega) (by omega) _
 exact key 256 (Zix _) hi _
theorem Qk1 (K : Heap) (rv : List V) (fl : Bool) (r : Nat -> List V) (hl : rv.length = 256) (hr : ∀ i, i < 256 -> ∃ f, rv[i]? = some (.iS (r i) 256 f)) (hrow : ∀ i, i < 256 -> J3 (r i)) : Qnq K (.iS rv 256 fl) r := by
 have hs : Zo 1 (.iS rv 256 fl) rv 256 := Zo.mk (by rw [hl])
 refine ⟨fun g => hs.len Tryz.underlying22 g, ⟨fun i => .iptr rv i, fun i => rv.getD i .bad, fun i hi => ?_, fun i hi G => ?_, fun i hi => ?_⟩, hrow, rfl, rfl, rfl⟩
 . have := hs.at (k := .i64) Tryz.underlying22 Qi1 (by decide) (i := (i : Int)) (by omega) (by omega)
   rw [this]
   have e : (i : Int).toNat * 1 = i := by omega
   rw [e]
 . obtain ⟨f, hf⟩ := hr i hi
   show Q2 Tryz.prog 26 rv i = _
   rw [rd26, hf]
   simp [List.getD, hf]
 . obtain ⟨f, hf⟩ := hr i hi
   exact ⟨f, by simp [List.getD, hf]⟩
theorem Qt4 {g : Get} {n : Nat} {f h : Nat -> V} : ∀ (l : List Nat), (∀ j ∈ l, frz g n (f j) = some (h j)) -> Zc (frz g n) (l.map f) = some (l.map h)
 | [], _ => rfl
 | j :: l, e => by
   simp only [Zje, Zc, e j (by simp), Qt4 l (fun k hk => e k (by simp [hk]))]
theorem Qlz (g : Get) (m : Nat) (a : Nat -> Int) (d : Nat -> List V) : ∀ n, Zc (frz g (m + 1)) (Qa3 a d n) = some (Qa3 a d n)
 | 0 => rfl
 | n + 1 => by
   have app : ∀ (l k l' k' : List V), Zc (frz g (m + 1)) l = some l' -> Zc (frz g (m + 1)) k = some k' -> Zc (frz g (m + 1)) (l ++ k) = some (l' ++ k') := by
    intro l
    induction l with
    | nil => intro k l' k' h1 h2; cases h1; exact h2
    | cons x l ih =>
      intro k l' k' h1 h2
      simp only [Zc, Zkg] at h1 ⊢
      cases hx : frz g (m + 1) x with
      | none => rw [hx] at h1; cases h1
      | some y =>
        rw [hx] at h1
        cases hl : Zc (frz g (m + 1)) l with
        | none => rw [hl] at h1; cases h1
        | some ys => rw [hl] at h1; cases h1; rw [ih k ys k' hl h2]; rfl
   rw [Qb8]
   exact app _ _ _ _ (Qlz g m a d n) rfl
theorem Ql5 (k : Nat) (H : Heap) (r : Nat -> List V) (Z : List V) (a : Nat -> Int) (d : Nat -> List V) (n : Nat) (hrow : ∀ i, i < 256 -> J3 (r i)) (hZ : Z.length = 65536) (hg : Qb H (k + 1) 20 = some (.cells (Xl r Z 256))) :
 frz (Qb H) depth (.agg [.gS (k + 1) 33 (Yp (k + 1) 256) 256 1, Y4 k a d n]) = some (encD r a d n) := by
 have hr : ∀ j, j < 256 -> (r j).length = 256 := fun j hj => (hrow j hj).1
 have hl := Qdr (r := r) hZ (Zix 256) hr
 have row : ∀ j ∈ List.range 256, frz (Qb H) 10 (.mS (k + 1) 20 (256 * j) 256 (some 256) 1) = some (.iS (r j) 256 true) := by
  intro j hj
  have hj' : j < 256 := Zko.1 hj
  have e : ((Xl r Z 256).drop (256 * j)).take (256 * 1) = r j := Q1t hr hj'
  have := Qjq (g := Qb H) (f := k + 1) (s := 20) (o := 256 * j) (len := 256) (esz := 1) (cap := some 256) (xs := Xl r Z 256) (m := 8) hg (by rw [hl]; omega) (by rw [e]; exact Qlm _ _ (hrow j hj').2)
  rw [e] at this
  exact this
 have rows := Qt4 (List.range 256) row
 have g1 : frz (Qb H) 11 (.gS (k + 1) 33 (Yp (k + 1) 256) 256 1) = some (.iS ((List.range 256).map fun j => .iS (r j) 256 true) 256 false) := by
  have e : frz (Qb H) 11 (.gS (k + 1) 33 (Yp (k + 1) 256) 256 1) = (Zc (frz (Qb H) 10) (Yp (k + 1) 256)).map fun cs => .iS cs 256 false := rfl
  rw [e]
  unfold Yp
  rw [rows]; rfl
 have g2 : frz (Qb H) 11 (Y4 k a d n) = some (if n = 0 then .nS else .iS (Qa3 a d n) n false) := by
  unfold Y4
  by_cases h : n = 0
  . simp only [h, if_true]; rfl
  . simp only [h, if_false]
    have e : frz (Qb H) 11 (.gS k 58 (Qa3 a d n) n 2) = (Zc (frz (Qb H) 10) (Qa3 a d n)).map fun cs => .iS cs n false := rfl
    rw [e, Qlz]; rfl
 have e : frz (Qb H) depth (.agg [.gS (k + 1) 33 (Yp (k + 1) 256) 256 1, Y4 k a d n]) = (Zc (frz (Qb H) 11) [.gS (k + 1) 33 (Yp (k + 1) 256) 256 1, Y4 k a d n]).map .agg := rfl
 rw [e]
 simp only [Zc, g1, g2, Zit]
 rfl
theorem Q6p (rv : List V) (fl : Bool) (r : Nat -> List V) (hl : rv.length = 256) (hr : ∀ i, i < 256 -> ∃ f, rv[i]? = some (.iS (r i) 256 f)) (hrow : ∀ i, i < 256 -> J3 (r i)) (wv : V) (cs : List V) (n : Nat) (hv : Zo 2 wv cs n) (hn : n <= 4096) (a : Nat -> Int) (d : Nat -> List V)
 (hwait : ∀ j, j < n -> cs[2 * j]? = some (.int .i64 (a j)) /\ ∃ fl, cs[2 * j + 1]? = some (.iS (d j) 256 fl)) (hdata : ∀ j, j < n -> J3 (d j)) :
 Fz Tryz.prog Qz 141 [.agg [.iS rv 256 fl, wv]] fun x => x = encD r a d n := by
 refine Fz.of_cw ((Qym [] WF.nil _ wv r (Qk1 [] rv fl r hl hr hrow) cs n hv hn a d hwait hdata).mono ?_)
 rintro rr H' ⟨rfl, rfl⟩
 refine ⟨_, rfl, _, ?_, rfl⟩
 exact Ql5 0 _ r (zerosN [.int .u8 0] 65536) a d n hrow (Qbd _ _) rfl
end
section
set_option maxRecDepth 100000
open Go.AM
attribute [local irreducible] U W
theorem Q4i (a : Int) (h0 : 0 <= a) (h1 : a < 256) : Fz Tryz.prog Qz 184 [.int .i64 a] fun x => x = .bool true := by
 refine Js Tryz.func184 rfl ?_
 have cv : ∀ g, convertV Tryz.prog g 3 203 (.int .i64 a) = some (.val (.int .u64 a) none) := fun g => by
  have w : (IntKind.u64).wrap a = a := by
   simp only [IntKind.wrap, IntKind.bits, IntKind.signed, Zle, Ziw, if_false]; omega
  simp only [convertV, Tryz.underlying3, Tryz.underlying203, w]
 have c1 : decide (a < 256) = true := Zlq h1
 simp only [Qn, Qg, Qf, Ql, Qa, Qc, nov, gd, rho, Qd, wr, Nat.reduceAdd, Nat.reduceSub, if_true, if_false, reduceIte, reduceCtorEq, Qi, Int.reduceBEq, Int.reduceBNe, Int.reduceLT, Int.reduceLE, ↓Qh, Tryz.ntmps184, cv, c1]
 exact W.done (Zv.ret rfl rfl rfl)
theorem Q4w (rv : List V) (fl : Bool) (r : Nat -> List V) (hl : rv.length = 256) (hr : ∀ i, i < 256 -> ∃ f, rv[i]? = some (.iS (r i) 256 f)) (wv : V) (cs : List V) (n : Nat) (hv : Zo 2 wv cs n) (hn : n <= 4096) (a : Nat -> Int) (d : Nat -> List V)
 (hwait : ∀ j, j < n -> cs[2 * j]? = some (.int .i64 (a j)) /\ ∃ fl, cs[2 * j + 1]? = some (.iS (d j) 256 fl)) (ha : ∀ j, j < n -> 0 <= a j /\ a j < 256) :
 CW Tryz.prog Qz 126 [.agg [.iS rv 256 fl, wv]] [] fun x _ => x = .ret (.int .i64 0) := by
 refine Xm Tryz.func126 rfl ?_
 have hs : Zo 1 (.iS rv 256 fl) rv 256 := Zo.mk (by rw [hl])
 have lw := hv.len Tryz.underlying23
 have wsc : wv.scalar = true := Qis hv
 have c4 : decide ((n : Int) <= 4096) = true := Zlq (by omega)
 have e256 : (((256 : Nat) : Int) == 256) = true := rfl
 have ldr : ∀ i : Nat, i < 256 -> ∃ f, ∀ g, ldV Tryz.prog 26 g (.iptr rv ((i : Int).toNat * 1)) = some (.iS (r i) 256 f) := fun i hi => by
  obtain ⟨f, hf⟩ := hr i hi
  refine ⟨f, fun g => ?_⟩
  have e : (i : Int).toNat * 1 = i := by omega
  rw [e]
  show Q2 Tryz.prog 26 rv i = _
  rw [rd26, hf]
 simp only [Qn, Qg, Qf, Ql, Qa, Qc, nov, gd, rho, Qd, wr, Nat.reduceAdd, Nat.reduceSub, if_true, if_false, reduceIte, reduceCtorEq, Qi, Int.reduceBEq, Int.reduceBNe, Int.reduceLT, Int.reduceLE, ↓Qh, Tryz.ntmps126, ta, new, Qb, hset, Qu, Qs, Qp, Nat.reduceLT, Nat.reduceEqDiff, splice, zerosN, Qo, Qr, Qk, V.pure, Nat.reduceMul, Nat.reduceLeDiff, Qq, wsc, lw, c4, e256]
 refine W.ul ?_
 refine W.loopS (kt := [1, 3, 19, 20, 21]) rfl (fun i : Nat => Qlc (.ptr 0 1 0) (.bool true) (.iS rv 256 fl) (.int .i64 ((256 : Nat) : Int)) (.int .i64 i)) (fun i => [[(1, .cells [.iS rv 256 fl, wv])]]) (fun i => i <= 256) (fun i => 256 - i) ?_ 0 (by omega) rfl rfl
 rintro i hi
 simp only [Qlc]
 by_cases h : i < 256
 . have c1 : decide ((i : Int) < ((256 : Nat) : Int)) = true := Zlq (by omega)
   have w1 := Bn (i := i) (by omega)
   obtain ⟨f, hf⟩ := ldr i h
   have at1 := hs.at (k := .i64) Tryz.underlying22 Qi1 (by decide) (i := (i : Int)) (by omega) (by omega)
   simp only [Qn, Qg, Qf, Ql, Qa, Qc, nov, gd, rho, Qd, wr, Nat.reduceAdd, Nat.reduceSub, if_true, if_false, reduceIte, reduceCtorEq, Qi, Int.reduceBEq, Int.reduceBNe, Int.reduceLT, Int.reduceLE, ↓Qh, c1, at1, hf, ta, w1, e256]
   exact W.done ⟨i + 1, rfl, rfl, by omega, by omega⟩
 . have c1 : decide ((i : Int) < ((256 : Nat) : Int)) = false := Zlr (by omega)
   have hi2 : i = 256 := by omega
   subst hi2
   simp only [Qn, Qg, Qf, Ql, Qa, Qc, nov, gd, rho, Qd, wr, Nat.reduceAdd, Nat.reduceSub, if_true, if_false, reduceIte, reduceCtorEq, Qi, Int.reduceBEq, Int.reduceBNe, Int.reduceLT, Int.reduceLE, ↓Qh, c1]
   refine W.done ?_
   simp only [Qn, Qg, Qf, Ql, Qa, Qc, nov, gd, rho, Qd, wr, Nat.reduceAdd, Nat.reduceSub, if_true, if_false, reduceIte, reduceCtorEq, Qi, Int.reduceBEq, Int.reduceBNe, Int.reduceLT, Int.reduceLE, ↓Qh, ta, new, Qb, hset, Qu, Qs, Qp, Nat.reduceLT, Nat.reduceEqDiff, splice, zerosN, Qo, Qr, Qk, V.pure, Nat.reduceMul, Nat.reduceLeDiff, Qq, wsc, lw]
   refine W.ul ?_
   refine W.loop (fun (i : Nat) t H => ∃ F : AM.Frame, Bl [3, 33, 34, 35] t 0 = Qh4 (.bool true) wv (.int .i64 n) (.int .i64 i) /\ i <= n /\ H = [F] /\ (F = [(1, .cells [.iS rv 256 fl, wv])] \/ ∃ x, F = [(1, .cells [.iS rv 256 fl, wv]), (7, .cells x)])) (fun i => n - i) ?_ 0 ⟨_, rfl, by omega, rfl, .inl rfl⟩ rfl
   rintro i t H ⟨F, ht, hi, rfl, hF⟩
   have hd : ([F] : Heap).modify 0 (J7 fun s => [7].contains s) = [[(1, .cells [.iS rv 256 fl, wv])]] := by
    rcases hF with rfl | ⟨x, rfl⟩ <;> rfl
   have wvr : wv.refs (fun f s => f == 0 && [7].contains s) = false := hv.noRefs _
   refine ⟨_, _, Ye (kt := [3, 33, 34, 35]) (ds := [7]) rfl ?_ ?_, ?_⟩
   . rw [ht]
     simp only [Qh4, Qx, V.refs, wvr]; simp
   . rw [hd]
     simp only [Zi, Zn, O.refs, Qx, V.refs, wvr]; simp
   rw [ht, hd]
   simp only [Qh4]
   by_cases h : i < n
   . have c1 : decide ((i : Int) < n) = true := Zlq (by omega)
     have w1 := Bn (i := i) (by omega)
     obtain ⟨e1, fl2, e2⟩ := hwait i h
     have at1 := hv.at (k := .i64) Tryz.underlying23 Qma (by decide) (i := (i : Int)) (by omega) (by omega)
     have ldw := Qvh h hv.1 e1 e2
     obtain ⟨m, rfl, hm⟩ := (Q4i (a i) (ha i h).1 (ha i h).2).op (by rfl) rfl
     have hm' : ∀ s H, _ := fun s H => hm 126 0 s H rfl
     simp only [Qn, Qg, Qf, Ql, Qa, Qc, nov, gd, rho, Qd, wr, Nat.reduceAdd, Nat.reduceSub, if_true, if_false, reduceIte, reduceCtorEq, Qi, Int.reduceBEq, Int.reduceBNe, Int.reduceLT, Int.reduceLE, ↓Qh, c1, at1, ldw, ta, new, Qb, hset, Qu, Qs, Qp, Nat.reduceLT, Nat.reduceEqDiff, splice, zerosN, Qo, Qr, Qk, V.pure, Nat.reduceMul, Nat.reduceLeDiff, Qq, w1, hm', e256]
     exact W.done ⟨i + 1, ⟨_, rfl, by omega, rfl, .inr ⟨_, rfl⟩⟩, by omega⟩
   . have c1 : decide ((i : Int) < n) = false := Zlr (by omega)
     simp only [Qn, Qg, Qf, Ql, Qa, Qc, nov, gd, rho, Qd, wr, Nat.reduceAdd, Nat.reduceSub, if_true, if_false, reduceIte, reduceCtorEq, Qi, Int.reduceBEq, Int.reduceBNe, Int.reduceLT, Int.reduceLE, ↓Qh, c1]
     refine W.done ?_
     simp only [Qn, Qg, Qf, Ql, Qa, Qc, nov, gd, rho, Qd, wr, Nat.reduceAdd, Nat.reduceSub, if_true, if_false, reduceIte, reduceCtorEq, Qi, Int.reduceBEq, Int.reduceBNe, Int.reduceLT, Int.reduceLE, ↓Qh]
     exact W.done (End.ret (v := .int .i64 0) rfl rfl)
end
end Go.Proofs.YtafhcdagifopeaaGreatDoor
