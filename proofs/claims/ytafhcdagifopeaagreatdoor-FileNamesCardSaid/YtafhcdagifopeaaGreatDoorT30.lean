/- This file holds in one the texts DG, DH, DS, DS2; each says at its head what it proves. -/
import Derived.Test.YtafhcdagifopeaaGreatDoorT20
import Derived.Test.YtafhcdagifopeaaGreatDoorT27
import Derived.Test.YtafhcdagifopeaaGreatDoorT28
import Derived.Test.YtafhcdagifopeaaGreatDoorT29
set_option linter.unusedSimpArgs false
set_option linter.unusedVariables false
namespace Go.Proofs.YtafhcdagifopeaaGreatDoor
section
set_option maxRecDepth 100000
open Go.AM
attribute [local irreducible] U W
theorem Q2e (v : V) (l : List UInt8) (hv : Q1 v l) : Fz Tryz.prog Qz 251 [v] fun r => r = .func (.func 273) [] [.iptr [v] 0] := by
 refine Js Tryz.func251 rfl ?_
 have c1 := hv.cells1
 simp only [Qn, Qg, Qf, Ql, Qa, Qc, nov, gd, rho, Qd, wr, Nat.reduceAdd, Nat.reduceSub, if_true, if_false, reduceIte, reduceCtorEq, Qi, Int.reduceBEq, Int.reduceBNe, Int.reduceLT, Int.reduceLE, ↓Qh, Tryz.ntmps251, ta, new, Qb, hset, Qu, Qs, Qp, Nat.reduceLT, Nat.reduceEqDiff, splice, zerosN, Qo, Qr, Qk, V.pure, Nat.reduceMul, Nat.reduceLeDiff, Qq, c1]
 have hf : frz (Qb [[(1, O.cells [v])]]) depth (.func (.func 273) [] [.ptr 0 1 0]) = some (.func (.func 273) [] [.iptr [v] 0]) := by
  have e := hv.frz (g := Qb [[(1, O.cells [v])]]) 9
  have e1 : frz (Qb [[(1, O.cells [v])]]) 11 (.ptr 0 1 0) = some (.iptr [v] 0) := by
   show (Zc (frz (Qb [[(1, O.cells [v])]]) 10) [v]).map _ = _
   rw [Qt e rfl]; rfl
  show (match Zc (frz _ 11) [], Zc (frz _ 11) [.ptr 0 1 0] with | some a, some b => some (V.func _ a b) | _, _ => none) = _
  rw [Qt e1 rfl]; rfl
 exact W.done (Zv.ret (v := .func (.func 273) [] [.ptr 0 1 0]) rfl hf rfl)
theorem Q1z (v : V) (l : List UInt8) (hv : Q1 v l) (hl : l.length <= 281474976710656) (fo so : Nat) (HS : Nat -> Heap) (hlen : ∀ i, (HS i).length = (HS l.length).length) (hw : WF (HS 0))
 (step : ∀ i (h : i < l.length), Q5 Tryz.prog Qz none [.yield fo so, .int .i64 i, .int .u8 l[i].toNat] (HS (i + 1) ++ [[]]) = some (.ret (.bool true), HS i ++ [[]])) :
 CW Tryz.prog Qz 273 [.yield fo so, .iptr [v] 0] (HS l.length) fun r H' => r = .ret (.tuple []) /\ H' = HS 0 := by
 refine Xm Tryz.func273 rfl ?_
 have len := hv.len Tryz.underlying26
 have w0 : (IntKind.i64).wrap ((l.length : Int) - 1) = (l.length : Int) - 1 := by rw [wrap_i64] <;> omega
 simp only [Qn, Qg, Qf, Ql, Qa, Qc, nov, gd, rho, Qd, wr, Nat.reduceAdd, Nat.reduceSub, if_true, if_false, reduceIte, reduceCtorEq, Qi, Int.reduceBEq, Int.reduceBNe, Int.reduceLT, Int.reduceLE, ↓Qh, Tryz.ntmps273, ta, new, Qb, hset, Qu, Qs, Qp, Nat.reduceLT, Nat.reduceEqDiff, splice, zerosN, Qo, Qr, Qk, V.pure, Nat.reduceMul, Nat.reduceLeDiff, Qq, len, w0]
 refine W.ul ?_
 refine W.loopS (kt := [0, 1, 3]) rfl (fun i : Nat => Qrr (.yield fo so) (.iptr [v] 0) (.int .i64 ((i : Int) - 1))) (fun i => HS i ++ [[]]) (fun i => i <= l.length) (fun i => i) ?_ l.length (Zix _) rfl rfl
 intro j hj
 cases j with
 | zero =>
   have c1 : decide ((((0 : Nat) : Int) - 1) >= 0) = false := rfl
   simp only [Qrr]
   simp only [Qn, Qg, Qf, Ql, Qa, Qc, nov, gd, rho, Qd, wr, Nat.reduceAdd, Nat.reduceSub, if_true, if_false, reduceIte, reduceCtorEq, Qi, Int.reduceBEq, Int.reduceBNe, Int.reduceLT, Int.reduceLE, ↓Qh, c1]
   refine W.done ?_
   simp only [Qn, Qg, Qf, Ql, Qa, Qc, nov, gd, rho, Qd, wr, Nat.reduceAdd, Nat.reduceSub, if_true, if_false, reduceIte, reduceCtorEq, Qi, Int.reduceBEq, Int.reduceBNe, Int.reduceLT, Int.reduceLE, ↓Qh]
   refine W.done (End.normal (v := .tuple []) rfl ⟨rfl, ?_⟩)
   have := Qac (H := HS 0) (G := [[]]) (v := .tuple []) rfl hw
   rw [hlen] at this
   exact this
 | succ i =>
   have e : ((i + 1 : Nat) : Int) - 1 = i := by omega
   have c1 : decide ((i : Int) >= 0) = true := by simp
   have at1 := hv.at (k := .i64) Tryz.underlying26 sz5 (by decide) (i := (i : Int)) (by omega) (by omega)
   have get1 : (Qj l)[(i : Int).toNat * 1]? = some (.int .u8 l[i].toNat) := by
    have : i < l.length := hj
    simp [Qan, this]
   have get1' : (Qj l)[(i : Int).toNat]? = some (.int .u8 l[i].toNat) := by simpa using get1
   have st := step i hj
   have w1 : (IntKind.i64).wrap ((i : Int) - 1) = (i : Int) - 1 := by rw [wrap_i64] <;> omega
   simp only [Qrr, e]
   simp only [Qn, Qg, Qf, Ql, Qa, Qc, nov, gd, rho, Qd, wr, Nat.reduceAdd, Nat.reduceSub, if_true, if_false, reduceIte, reduceCtorEq, Qi, Int.reduceBEq, Int.reduceBNe, Int.reduceLT, Int.reduceLE, ↓Qh, ta, new, Qb, hset, Qu, Qs, Qp, Nat.reduceLT, Nat.reduceEqDiff, splice, zerosN, Qo, Qr, Qk, V.pure, Nat.reduceMul, Nat.reduceLeDiff, Qq, c1, len, at1, get1, get1', rd5, st, Qh7, Qxi, w1]
   exact W.done ⟨i, rfl, rfl, by omega, by omega⟩
theorem Qun (k : Nat) : Fz Tryz.prog Qz 138 [.int .i64 k] fun r => r = .bool (decide (0 < k) && decide (k <= 4)) := by
 refine Js Tryz.func138 rfl ?_
 have c1 : decide ((k : Int) > 0) = decide (0 < k) := by simp
 have c2 : decide ((k : Int) <= 4) = decide (k <= 4) := by simp; omega
 simp only [Qn, Qg, Qf, Ql, Qa, Qc, nov, gd, rho, Qd, wr, Nat.reduceAdd, Nat.reduceSub, if_true, if_false, reduceIte, reduceCtorEq, Qi, Int.reduceBEq, Int.reduceBNe, Int.reduceLT, Int.reduceLE, ↓Qh, Tryz.ntmps138, ta, new, Qb, hset, Qu, Qs, Qp, Nat.reduceLT, Nat.reduceEqDiff, splice, zerosN, Qo, Qr, Qk, V.pure, Nat.reduceMul, Nat.reduceLeDiff, Qq, c1, c2]
 cases h : decide (0 < k) with
 | true =>
   simp only [Qn, Qg, Qf, Ql, Qa, Qc, nov, gd, rho, Qd, wr, Nat.reduceAdd, Nat.reduceSub, if_true, if_false, reduceIte, reduceCtorEq, Qi, Int.reduceBEq, Int.reduceBNe, Int.reduceLT, Int.reduceLE, ↓Qh]
   exact W.done (Zv.ret rfl rfl (by simp; omega))
 | false =>
   simp only [Qn, Qg, Qf, Ql, Qa, Qc, nov, gd, rho, Qd, wr, Nat.reduceAdd, Nat.reduceSub, if_true, if_false, reduceIte, reduceCtorEq, Qi, Int.reduceBEq, Int.reduceBNe, Int.reduceLT, Int.reduceLE, ↓Qh]
   exact W.done (Zv.ret rfl rfl (by simp))
def J8 : List UInt8 -> Nat
 | [] => 0
 | b :: r => b.toNat + 256 * J8 r
theorem Qld : ∀ l : List UInt8, J8 l < 256 ^ l.length
 | [] => by decide
 | b :: r => by
   have := Qld r
   have hb := UInt8.toNat_lt b
   simp only [J8, Zja, Nat.pow_succ]
   omega
def getR (l : List UInt8) (at_ k : Nat) : Nat × Nat :=
 if !(decide (0 < k) && decide (k <= 4)) || decide (l.length < at_) then (0, 2) else if l.length < at_ + k then (0, 8) else (J8 ((l.drop at_).take k), 0)
theorem Qzh {n : Nat} (h : 1 <= n) {s r f x : Nat} {T : List V} {G : AM.Heap} (hr : Qx (fun f _ => Nat.ble 1 f) T = false) {o : AM.O} (ho : o.refs (fun f _ => Nat.ble 1 f) = false) (hG : G = [[]] \/ G = []) : WF ([[(s, o), (r, .loop 0 none f x T)]] ++ G) := by
 have h1 : Zi (fun f _ => Nat.ble 1 f) [[(s, o), (r, .loop 0 none f x T)]] = true := by
  have h0 : (O.loop 0 none f x T).refs (fun f _ => Nat.ble 1 f) = false := hr
  simp only [Zi, Zn, ho, h0]; rfl
 have h2 : WF [[(s, o), (r, O.loop 0 none f x T)]] := h1
 rcases hG with rfl | rfl
 . exact h2.app rfl
 . exact h2
theorem Q1r (p : List UInt8) (n : Nat) (hn : J8 p < 4294967296) (T : List V) (hT : T.length = 43) (h8 : T.getD 8 .bad = .ptr 0 8 0) (hr : Qx (fun f _ => Nat.ble 1 f) T = false) (i : Nat) (hi : i < p.length) (hnl : J8 (p.drop i) < 4294967296) :
 Q5 Tryz.prog Qz none [.yield 0 1000009, .int .i64 i, .int .u8 p[i].toNat] ([[(8, .cells [.int .i64 (J8 (p.drop (i + 1)))]), (1000009, .loop 0 none 223 9 T)]] ++ [[]]) = some (.ret (.bool true), [[(8, .cells [.int .i64 (J8 (p.drop i))]), (1000009, .loop 0 none 223 9 T)]] ++ [[]]) := by
 obtain ⟨r, H3, h1, rfl, rfl⟩ := Qtk (P := Tryz.prog) (pol := Qz) (fo := 0) (so := 1000009) (args := [.int .i64 i, .int .u8 p[i].toNat]) (H := [[(8, .cells [.int .i64 (J8 (p.drop (i + 1)))]), (1000009, .loop 0 none 223 9 T)], []]) (p := none) (fL := 223) (rid := 9) (t0 := T)
  (R := fun r H3 => r = .ret (.bool true) /\ H3 = [[(8, .cells [.int .i64 (J8 (p.drop i))]), (1000009, .loop 0 none 223 9 T)], []]) rfl (Qps Tryz.func223 rfl rfl) rfl (by
    have ed : p.drop i = p[i] :: p.drop (i + 1) := Zlh hi
    have en : J8 (p.drop i) = p[i].toNat + 256 * J8 (p.drop (i + 1)) := by rw [ed]; rfl
    change W (U _ _ _ _ _ _ _ .normal ((T.set 35 _).set 36 _) _) _
    have hL : ∀ a b x y, ((T.set a x).set b y).length = 43 := fun a b x y => by simp [hT]
    simp only [Qn, Qg, Qf, Ql, Qa, Qc, nov, gd, rho, Qd, wr, Nat.reduceAdd, Nat.reduceSub, if_true, if_false, reduceIte, reduceCtorEq, Qi, Int.reduceBEq, Int.reduceBNe, Int.reduceLT, Int.reduceLE, ↓Qh, new, Qb, hset, Qu, Qs, Qp, Nat.reduceLT, Nat.reduceEqDiff, splice, zerosN, Qo, Qr, Qk, V.pure, Nat.reduceMul, Nat.reduceLeDiff, Qq, ta, Qqd, Qp5, Zla, hT, h8, Nat.reduceBEq]
    refine W.done ⟨rfl, none, 223, 9, T, rfl, ?_⟩
    have nl : J8 (p.drop (i + 1)) < 16777216 := by omega
    have hb := UInt8.toNat_lt p[i]
    have w1 : (IntKind.i64).wrap (256 * (J8 (p.drop (i + 1)) : Int)) = ((256 * J8 (p.drop (i + 1)) : Nat) : Int) := by rw [wrap_i64] <;> omega
    have w2 : (IntKind.i64).wrap (((256 * J8 (p.drop (i + 1)) : Nat) : Int) + (p[i].toNat : Int)) = (J8 (p.drop i) : Int) := by rw [wrap_i64] <;> omega
    have cv : ∀ g, convertV Tryz.prog g 5 3 (.int .u8 p[i].toNat) = some (.val (.int .i64 p[i].toNat) none) := fun g => by
     simp only [convertV, Tryz.underlying3, Tryz.underlying5]
     have : (IntKind.i64).wrap (p[i].toNat : Int) = p[i].toNat := by rw [wrap_i64] <;> omega
     simp only [this]
    simp only [Qn, Qg, Qf, Ql, Qa, Qc, nov, gd, rho, Qd, wr, Nat.reduceAdd, Nat.reduceSub, if_true, if_false, reduceIte, reduceCtorEq, Qi, Int.reduceBEq, Int.reduceBNe, Int.reduceLT, Int.reduceLE, ↓Qh, new, Qb, hset, Qu, Qs, Qp, Nat.reduceLT, Nat.reduceEqDiff, splice, zerosN, Qo, Qr, Qk, V.pure, Nat.reduceMul, Nat.reduceLeDiff, Qq, ta, Qqd, Qp5, Zla, hT, h8, Nat.reduceBEq, w1, w2, cv]
    refine W.done ⟨_, _, rfl, rfl, ?_⟩
    exact Qac (H := [[(8, .cells [.int .i64 (J8 (p.drop i))]), (1000009, .loop 0 none 223 9 T)], []]) (G := [[]]) rfl (Qzh (n := 1) (by omega) hr rfl (.inl rfl)))
 exact h1
theorem Q3n (w : V) (p : List UInt8) (hw : Q1 w p) (hp : p.length <= 4) (T : List V) (hT : T.length = 43) (h8 : T.getD 8 .bad = .ptr 0 8 0) (hr : Qx (fun f _ => Nat.ble 1 f) T = false) :
 CW Tryz.prog Qz 273 [.yield 0 1000009, .iptr [w] 0] [[(8, .cells [.int .i64 0]), (1000009, .loop 0 none 223 9 T)]] fun r H' => r = .ret (.tuple []) /\ H' = [[(8, .cells [.int .i64 (J8 p)]), (1000009, .loop 0 none 223 9 T)]] := by
 have lt : ∀ i, J8 (p.drop i) < 4294967296 := fun i => by
  have h1 := Qld (p.drop i)
  have h2 : 256 ^ (p.drop i).length <= 256 ^ 4 := Nat.pow_le_pow_right (by decide) (by simp; omega)
  exact Zi0 h1 h2
 have := Q1z w p hw (by omega) 0 1000009 (fun i => [[(8, .cells [.int .i64 (J8 (p.drop i))]), (1000009, .loop 0 none 223 9 T)]]) (fun _ => rfl) (Qzh (n := 1) (G := []) (by omega) hr rfl (.inr rfl))
  (fun i hi => Q1r p 0 (lt 0) T hT h8 hr i hi (lt i))
 have e : J8 (p.drop p.length) = 0 := by rw [List.drop_length]; rfl
 simp only [e] at this
 exact this
def Qol (n a k : Nat) (p : List UInt8) : Nat × Nat :=
 if !(decide (0 < k) && decide (k <= 4)) || decide (n < a) then (0, 2) else if n < a + k then (0, 8) else (J8 p, 0)
theorem get_sl (v : V) (cells : List V) (n : Nat) (hv : Zo 1 v cells n) (hl : n <= 281474976710656) (a k : Nat) (ha : a <= 281474976710656) (hk : k <= 4294967296) (p : List UInt8) (hp : a + k <= n -> k <= 4 -> (cells.drop a).take k = Qj p) :
 Fz Tryz.prog Qz 223 [v, .int .i64 a, .int .i64 k] fun r => r = .tuple [.int .i64 (Qol n a k p).1, .int .i64 (Qol n a k p).2] := by
 refine Js Tryz.func223 rfl ?_
 obtain ⟨m, rfl, hm⟩ := (Qun k).op (by rfl) rfl
 have hm' : ∀ s H, _ := fun s H => hm 223 0 s H rfl
 have len := hv.len Tryz.underlying26
 have c0 : decide ((a : Int) < 0) = false := by simp
 have c1 : decide ((a : Int) > n) = decide (n < a) := by simp
 have w1 : (IntKind.i64).wrap ((a : Int) + k) = ((a + k : Nat) : Int) := by rw [wrap_i64] <;> omega
 have c2 : decide (((a + k : Nat) : Int) > n) = decide (n < a + k) := by simp; omega
 generalize hs : (decide (0 < k) && decide (k <= 4)) = sz at *
 simp only [Qn, Qg, Qf, Ql, Qa, Qc, nov, gd, rho, Qd, wr, Nat.reduceAdd, Nat.reduceSub, if_true, if_false, reduceIte, reduceCtorEq, Qi, Int.reduceBEq, Int.reduceBNe, Int.reduceLT, Int.reduceLE, ↓Qh, Tryz.ntmps223, ta, new, Qb, hset, Qu, Qs, Qp, Nat.reduceLT, Nat.reduceEqDiff, splice, zerosN, Qo, Qr, Qk, V.pure, Nat.reduceMul, Nat.reduceLeDiff, Qq, hm', len]
 have err : ∀ (x : Nat) (T : List V), T.getD 6 .bad = .int .i64 0 -> T.getD 7 .bad = .int .i64 x -> Qol n a k p = (0, x) -> Zv Tryz.prog Tryz.f223 (fun r => r = .tuple [.int .i64 (Qol n a k p).1, .int .i64 (Qol n a k p).2]) .ret T [[]] := by
  intro x T h1 h2 h3
  refine Zv.ret (v := .tuple [.int .i64 0, .int .i64 x]) ?_ rfl (by rw [h3]; rfl)
  show (match Qfm Tryz.prog T [[]] [.tmp 6, .tmp 7] with | some [v] => some v | some vs => some (V.tuple vs) | none => none) = _
  simp only [Qfm, Bd, h1, h2]
 cases sz with
 | false =>
   simp only [Qn, Qg, Qf, Ql, Qa, Qc, nov, gd, rho, Qd, wr, Nat.reduceAdd, Nat.reduceSub, if_true, if_false, reduceIte, reduceCtorEq, Qi, Int.reduceBEq, Int.reduceBNe, Int.reduceLT, Int.reduceLE, ↓Qh]
   refine W.done (err 2 _ rfl rfl ?_)
   simp [Qol, hs]
 | true =>
   simp only [Qn, Qg, Qf, Ql, Qa, Qc, nov, gd, rho, Qd, wr, Nat.reduceAdd, Nat.reduceSub, if_true, if_false, reduceIte, reduceCtorEq, Qi, Int.reduceBEq, Int.reduceBNe, Int.reduceLT, Int.reduceLE, ↓Qh, c0, c1, len]
   refine W.ite (fun h => ?_) (fun h => ?_)
   . simp only [Qn, Qg, Qf, Ql, Qa, Qc, nov, gd, rho, Qd, wr, Nat.reduceAdd, Nat.reduceSub, if_true, if_false, reduceIte, reduceCtorEq, Qi, Int.reduceBEq, Int.reduceBNe, Int.reduceLT, Int.reduceLE, ↓Qh]
     refine W.done (err 2 _ rfl rfl ?_)
     simp only [decide_eq_true_eq] at h
     simp [Qol, hs, h]
   . have h' : ¬ n < a := by simpa using h
     simp only [Qn, Qg, Qf, Ql, Qa, Qc, nov, gd, rho, Qd, wr, Nat.reduceAdd, Nat.reduceSub, if_true, if_false, reduceIte, reduceCtorEq, Qi, Int.reduceBEq, Int.reduceBNe, Int.reduceLT, Int.reduceLE, ↓Qh, len, w1, c2]
     refine W.ite (fun h2 => ?_) (fun h2 => ?_)
     . simp only [Qn, Qg, Qf, Ql, Qa, Qc, nov, gd, rho, Qd, wr, Nat.reduceAdd, Nat.reduceSub, if_true, if_false, reduceIte, reduceCtorEq, Qi, Int.reduceBEq, Int.reduceBNe, Int.reduceLT, Int.reduceLE, ↓Qh]
       refine W.done (err 8 _ rfl rfl ?_)
       simp only [decide_eq_true_eq] at h2
       simp [Qol, hs, h', h2]
     . have h2' : ¬ n < a + k := by simpa using h2
       have hg : Qol n a k p = (J8 p, 0) := by simp [Qol, hs, h', h2']
       rw [hg]
       have kl : k <= 4 := by
        rw [Zjj, decide_eq_true_eq, decide_eq_true_eq] at hs; exact hs.2
       obtain ⟨w, sl, hw0⟩ := hv.cut (P := Tryz.prog) Tryz.underlying26 sz5 (some (a : Int)) (some ((a + k : Nat) : Int)) (by simp) (by simp only [Zkt]; omega) (by simp only [Zkt]; omega)
       have e1 : ((some ((a + k : Nat) : Int)).getD n).toNat - ((some (a : Int)).getD 0).toNat = k := by
        simp only [Zkt, Zk3]; omega
       have e2 : ((some (a : Int)).getD 0).toNat * 1 = a := by simp
       rw [e1, e2, Zju, hp (by omega) kl] at hw0
       simp only [Zit] at sl
       have pl : p.length = k := by
        have := hw0.1
        rw [Yj] at this; omega
       have hw : Q1 w p := by unfold Q1; rw [pl]; exact hw0
       obtain ⟨m3, rfl, hm3⟩ := (Q2e w p hw).op (by rfl) (Qt (hw.frz _) rfl)
       have hm3' : ∀ s H, _ := fun s H => hm3 223 0 s H rfl
       simp only [Qn, Qg, Qf, Ql, Qa, Qc, nov, gd, rho, Qd, wr, Nat.reduceAdd, Nat.reduceSub, if_true, if_false, reduceIte, reduceCtorEq, Qi, Int.reduceBEq, Int.reduceBNe, Int.reduceLT, Int.reduceLE, ↓Qh, new, Qb, hset, Qu, Qs, Qp, Nat.reduceLT, Nat.reduceEqDiff, splice, zerosN, Qo, Qr, Qk, V.pure, Nat.reduceMul, Nat.reduceLeDiff, Qq, ta, w1, sl, hm3']
       refine W.rfunc (rid := 9) rfl rfl rfl ?_
       refine (Q3n w p hw (by omega) _ rfl rfl ?_).mono ?_
       . simp only [Qx, V.refs, hv.noRefs, hw.noRefs]; rfl
       rintro r H2 ⟨rfl, rfl⟩
       refine ⟨_, rfl, ?_⟩
       rw [Qlw (st := 0) (f := 223) (r := 9) rfl (by decide) (by simp only [Qx, V.refs, hv.noRefs, hw.noRefs]; rfl) rfl]
       have hH : ∀ T, List.modify [[(8, O.cells [V.int .i64 (J8 p)]), (1000009, O.loop 0 none 223 9 T)]] 0 (J7 fun x => [Zb 9].contains x) = [[(8, O.cells [V.int .i64 (J8 p)])]] := fun T => rfl
       rw [hH]
       simp only [Qn, Qg, Qf, Ql, Qa, Qc, nov, gd, rho, Qd, wr, Nat.reduceAdd, Nat.reduceSub, if_true, if_false, reduceIte, reduceCtorEq, Qi, Int.reduceBEq, Int.reduceBNe, Int.reduceLT, Int.reduceLE, ↓Qh, new, Qb, hset, Qu, Qs, Qp, Nat.reduceLT, Nat.reduceEqDiff, splice, zerosN, Qo, Qr, Qk, V.pure, Nat.reduceMul, Nat.reduceLeDiff, Qq, ta, Qh7]
       exact W.done (Zv.ret (v := .tuple [.int .i64 (J8 p), .int .i64 0]) rfl rfl rfl)
theorem get_fz (v : V) (l : List UInt8) (hv : Q1 v l) (hl : l.length <= 281474976710656) (a k : Nat) (ha : a <= 281474976710656) (hk : k <= 4294967296) :
 Fz Tryz.prog Qz 223 [v, .int .i64 a, .int .i64 k] fun r => r = .tuple [.int .i64 (getR l a k).1, .int .i64 (getR l a k).2] :=
 get_sl v (Qj l) l.length hv hl a k ha hk ((l.drop a).take k) (fun _ _ => by simp [Qj])
theorem Qp2 (v : V) (l : List UInt8) (hv : Q1 v l) (hl : l.length = 4) : Fz Tryz.prog Qz 220 [v] fun r => r = .int .u32 (J8 l) := by
 refine Js Tryz.func220 rfl ?_
 obtain ⟨m, rfl, hm⟩ := (get_fz v l hv (by omega) 0 4 (by omega) (by omega)).op (by rfl) (Qt (hv.frz _) rfl)
 have e : getR l 0 4 = (J8 l, 0) := by
  have : l.take 4 = l := Zli (by omega)
  simp [getR, hl, this]
 have lt := Qld l
 rw [hl] at lt
 rw [e] at hm
 have hm' : ∀ s H, AM.callOp Qz (Q5 Tryz.prog Qz) 220 0 s 223 [v, .int .i64 0, .int .i64 4] H = some (.ret (.tuple [.int .i64 (J8 l), .int .i64 0]), H) := fun s H => hm 220 0 s H rfl
 have cv : ∀ g, convertV Tryz.prog g 3 27 (.int .i64 (J8 l)) = some (.val (.int .u32 (J8 l)) none) := fun g => by
  simp only [convertV, Tryz.underlying3, Tryz.underlying27]
  have : (IntKind.u32).wrap (J8 l : Int) = J8 l := by rw [IntKind.wrap_u32]; omega
  simp only [this]
 simp only [Qn, Qg, Qf, Ql, Qa, Qc, nov, gd, rho, Qd, wr, Nat.reduceAdd, Nat.reduceSub, if_true, if_false, reduceIte, reduceCtorEq, Qi, Int.reduceBEq, Int.reduceBNe, Int.reduceLT, Int.reduceLE, ↓Qh, Tryz.ntmps220, ta, new, Qb, hset, Qu, Qs, Qp, Nat.reduceLT, Nat.reduceEqDiff, splice, zerosN, Qo, Qr, Qk, V.pure, Nat.reduceMul, Nat.reduceLeDiff, Qq, hm', cv]
 exact W.done (Zv.ret (v := .int .u32 (J8 l)) rfl rfl rfl)
end
section
set_option maxRecDepth 100000
open Go.AM
attribute [local irreducible] U W
theorem cut3 {P : Program} {u e : TypeId} {v : V} {l : List UInt8} (hu : P.underlying u = some (.slice e)) (hs : sz P e = some 1) (h : Q1 v l) {a b : Nat} (h1 : a <= b) (h2 : b <= l.length) (g : Get) :
 ∃ w, (∀ g, Z6 P g u v (some (.int .i64 a)) (some (.int .i64 b)) (some (.int .i64 b)) = some w) /\ Q1 w ((l.drop a).take (b - a)) /\ ((w = .nS /\ v = .nS) \/ ∃ c n, w = .iS c n true) := by
 have ol : ∀ x : Nat, Bc (some (.int .i64 x)) = some (some (x : Int)) := fun x => rfl
 obtain ⟨hl, ⟨rfl, h0⟩ | ⟨f, rfl⟩⟩ := h
 . have hb : b = 0 := by omega
   have ha : a = 0 := by omega
   subst hb ha
   refine ⟨.nS, fun g => ?_, ?_, .inl ⟨rfl, rfl⟩⟩
   . simp only [Z6, ol, hu, hs, Bo]; rfl
   . rw [Nat.sub_self, List.take_zero]; exact Q1.nil
 . refine ⟨.iS (((Qj l).drop (a * 1)).take ((b - a) * 1)) (b - a) true, fun g => ?_, ?_, .inr ⟨_, _, rfl⟩⟩
   . simp only [Z6, ol, hu, hs, Qk0, hl, if_true, Bo, Zkt]
     rw [if_pos ⟨by omega, by omega, by omega, by omega, by omega, by omega, by simp⟩]
     simp
   . rw [Zju, Zju, Qhy, Qdq]
     have : ((l.drop a).take (b - a)).length = b - a := by simp; omega
     have h3 := Q1.mk ((l.drop a).take (b - a)) true
     rwa [this] at h3
theorem Q2p (v : V) (l : List UInt8) (hv : Q1 v l) (k : Nat) (hk : 0 < k) : Fz Tryz.prog Qz 61 [v, .int .i64 k] fun r => r = .func (.func 105) [] [.iptr [v] 0, .iptr [.int .i64 k] 0] := by
 refine Js Tryz.func61 rfl ?_
 have c1 := hv.cells1
 have c2 : decide ((k : Int) < 1) = false := by simp; omega
 simp only [Qn, Qg, Qf, Ql, Qa, Qc, nov, gd, rho, Qd, wr, Nat.reduceAdd, Nat.reduceSub, if_true, if_false, reduceIte, reduceCtorEq, Qi, Int.reduceBEq, Int.reduceBNe, Int.reduceLT, Int.reduceLE, ↓Qh, Tryz.ntmps61, ta, new, Qb, hset, Qu, Qs, Qp, Nat.reduceLT, Nat.reduceEqDiff, splice, zerosN, Qo, Qr, Qk, V.pure, Nat.reduceMul, Nat.reduceLeDiff, Qq, c1, c2]
 have hf : frz (Qb [[(2, O.cells [v]), (3, O.cells [.int .i64 k])]]) depth (.func (.func 105) [] [.ptr 0 2 0, .ptr 0 3 0]) = some (.func (.func 105) [] [.iptr [v] 0, .iptr [.int .i64 k] 0]) := by
  have e := hv.frz (g := Qb [[(2, O.cells [v]), (3, O.cells [.int .i64 k])]]) 9
  have e1 : frz (Qb [[(2, O.cells [v]), (3, O.cells [.int .i64 k])]]) 11 (.ptr 0 2 0) = some (.iptr [v] 0) := by
   show (Zc (frz (Qb [[(2, O.cells [v]), (3, O.cells [.int .i64 k])]]) 10) [v]).map _ = _
   rw [Qt e rfl]; rfl
  show (match Zc (frz _ 11) [], Zc (frz _ 11) [.ptr 0 2 0, .ptr 0 3 0] with | some a, some b => some (V.func _ a b) | _, _ => none) = _
  rw [Qt e1 (Qt (y := .iptr [.int .i64 k] 0) rfl rfl)]; rfl
 exact W.done (Zv.ret (v := .func (.func 105) [] [.ptr 0 2 0, .ptr 0 3 0]) rfl hf rfl)
theorem Q3x (v : V) (l : List UInt8) (hv : Q1 v l) (hl : l.length <= 281474976710656) (k : Nat) (hk : 0 < k) (hk2 : k <= 281474976710656) (m : Nat) (hm : l.length = k * m) (fo so : Nat) (HS : Nat -> Heap) (hlen : ∀ i, (HS i).length = (HS 0).length) (hw : WF (HS m))
 (step : ∀ j, j < m -> ∀ w, Q1 w ((l.drop (k * j)).take k) -> Q5 Tryz.prog Qz none [.yield fo so, w] (HS j ++ [[]]) = some (.ret (.bool true), HS (j + 1) ++ [[]])) :
 CW Tryz.prog Qz 105 [.yield fo so, .iptr [v] 0, .iptr [.int .i64 k] 0] (HS 0) fun r H' => r = .ret (.tuple []) /\ H' = HS m := by
 refine Xm Tryz.func105 rfl ?_
 have len := hv.len Tryz.underlying26
 simp only [Qn, Qg, Qf, Ql, Qa, Qc, nov, gd, rho, Qd, wr, Nat.reduceAdd, Nat.reduceSub, if_true, if_false, reduceIte, reduceCtorEq, Qi, Int.reduceBEq, Int.reduceBNe, Int.reduceLT, Int.reduceLE, ↓Qh, Tryz.ntmps105, ta, new, Qb, hset, Qu, Qs, Qp, Nat.reduceLT, Nat.reduceEqDiff, splice, zerosN, Qo, Qr, Qk, V.pure, Nat.reduceMul, Nat.reduceLeDiff, Qq]
 refine W.ul ?_
 refine W.loopS (kt := [0, 1, 2, 4]) rfl (fun j : Nat => Qy1 (.yield fo so) (.iptr [v] 0) (.iptr [.int .i64 k] 0) (.int .i64 ((k * j : Nat) : Int))) (fun j => HS j ++ [[]]) (fun j => j <= m) (fun j => m - j) ?_ 0 (Nat.zero_le _) rfl rfl
 intro j hj
 simp only [Qy1]
 by_cases h : j < m
 . have hle : k * j + k <= l.length := by
    have : k * (j + 1) <= k * m := Nat.mul_le_mul_left k h
    rw [Nat.mul_succ] at this; omega
   have c1 : decide (((k * j : Nat) : Int) < l.length) = true := by simp only [decide_eq_true_eq]; omega
   obtain ⟨w1, sl1, hw1⟩ := hv.cut (P := Tryz.prog) Tryz.underlying26 sz5 (some ((k * j : Nat) : Int)) none (by simp only [Zkt]; omega) (by simp only [Zkt, Zk7]; omega) (by simp only [Zk7]; omega)
   have len1 := hw1.len Tryz.underlying26
   have e1 : ((l.drop ((some ((k * j : Nat) : Int)).getD 0).toNat).take (((none : Option Int).getD l.length).toNat - ((some ((k * j : Nat) : Int)).getD 0).toNat)).length = l.length - k * j := by
    simp only [Zkt, Zk7, Zk3, Zk8, Zk0]; omega
   rw [e1] at len1
   simp only [Zit, Zkc] at sl1
   have mn : (if ((l.length - k * j : Nat) : Int) < (k : Int) then ((l.length - k * j : Nat) : Int) else (k : Int)) = k := if_neg (by omega)
   have w2 : (IntKind.i64).wrap (((k * j : Nat) : Int) + k) = ((k * j + k : Nat) : Int) := by rw [wrap_i64] <;> omega
   obtain ⟨w3, sl3, hw3, _⟩ := cut3 (P := Tryz.prog) Tryz.underlying26 sz5 hv (a := k * j) (b := k * j + k) (by omega) hle (fun _ _ => none)
   rw [Nat.add_sub_cancel_left] at hw3
   have st := step j h w3 hw3
   generalize hP : (k * j : Nat) = p at *
   generalize hQ : (p + k : Nat) = q at *
   simp only [Qn, Qg, Qf, Ql, Qa, Qc, nov, gd, rho, Qd, wr, Nat.reduceAdd, Nat.reduceSub, if_true, if_false, reduceIte, reduceCtorEq, Qi, Int.reduceBEq, Int.reduceBNe, Int.reduceLT, Int.reduceLE, ↓Qh, ta, new, Qb, hset, Qu, Qs, Qp, Nat.reduceLT, Nat.reduceEqDiff, splice, zerosN, Qo, Qr, Qk, V.pure, Nat.reduceMul, Nat.reduceLeDiff, Qq, c1, len, len1, sl1, sl3, mn, w2, st, Qh7, Qxi]
   refine W.opsK (by kernel_rfl) ?_
   simp only [Qn, Qg, Qf, Ql, Qa, Qc, nov, gd, rho, Qd, wr, Nat.reduceAdd, Nat.reduceSub, if_true, if_false, reduceIte, reduceCtorEq, Qi, Int.reduceBEq, Int.reduceBNe, Int.reduceLT, Int.reduceLE, ↓Qh, ta, new, Qb, hset, Qu, Qs, Qp, Nat.reduceLT, Nat.reduceEqDiff, splice, zerosN, Qo, Qr, Qk, V.pure, Nat.reduceMul, Nat.reduceLeDiff, Qq, c1, len, len1, sl1, sl3, mn, w2, st, Qh7, Qxi]
   refine W.done ⟨j + 1, ?_, rfl, h, by omega⟩
   have e2 : k * (j + 1) = q := by rw [Nat.mul_succ, hP, hQ]
   rw [e2]; rfl
 . have hjm : j = m := by omega
   subst hjm
   have c1 : decide (((k * j : Nat) : Int) < l.length) = false := by simp only [decide_eq_false_iff_not]; omega
   simp only [Qn, Qg, Qf, Ql, Qa, Qc, nov, gd, rho, Qd, wr, Nat.reduceAdd, Nat.reduceSub, if_true, if_false, reduceIte, reduceCtorEq, Qi, Int.reduceBEq, Int.reduceBNe, Int.reduceLT, Int.reduceLE, ↓Qh, ta, new, Qb, hset, Qu, Qs, Qp, Nat.reduceLT, Nat.reduceEqDiff, splice, zerosN, Qo, Qr, Qk, V.pure, Nat.reduceMul, Nat.reduceLeDiff, Qq, len, c1]
   refine W.done ?_
   simp only [Qn, Qg, Qf, Ql, Qa, Qc, nov, gd, rho, Qd, wr, Nat.reduceAdd, Nat.reduceSub, if_true, if_false, reduceIte, reduceCtorEq, Qi, Int.reduceBEq, Int.reduceBNe, Int.reduceLT, Int.reduceLE, ↓Qh]
   refine W.done (End.normal (v := .tuple []) rfl ⟨rfl, ?_⟩)
   have := Qac (H := HS j) (G := [[]]) (v := .tuple []) rfl hw
   rw [hlen] at this
   exact this
end
section
set_option maxRecDepth 100000
open Go.AM Go.AM.BM
attribute [local irreducible] U W
theorem Qy2 (n : Nat) : (IntKind.u32).wrap (n : Int) = ((n % 4294967296 : Nat) : Int) := by
 simp [IntKind.wrap, IntKind.bits, IntKind.signed]
theorem Qsr (n : Nat) (h : n < 4294967296) : (BitVec.ofInt 32 (n : Int)).toNat = n := by
 simp [BitVec.toNat_ofInt]; omega
theorem addU (a b : Nat) : Qcz .add .u32 a b = some (.int .u32 (Qbu a b : Nat)) := by
 have : ((a : Int) + b) = ((a + b : Nat) : Int) := by omega
 simp only [Qcz]; rw [this, Qy2]; rfl
theorem xorU (a b : Nat) (ha : a < 4294967296) (hb : b < 4294967296) : Qcz .xor .u32 a b = some (.int .u32 (Nat.xor a b : Nat)) := by
 have e : (BitVec.ofInt (IntKind.u32).bits (a : Int) ^^^ BitVec.ofInt (IntKind.u32).bits (b : Int)).toNat = Nat.xor a b := by
  show (BitVec.ofInt 32 (a : Int) ^^^ BitVec.ofInt 32 (b : Int)).toNat = _
  rw [BitVec.toNat_xor, Qsr a ha, Qsr b hb]; rfl
 have l : Nat.xor a b < 4294967296 := Nat.xor_lt_two_pow (n := 32) ha hb
 simp only [Qcz]; rw [e, Qy2, Nat.mod_eq_of_lt l]
theorem orU (a b : Nat) (ha : a < 4294967296) (hb : b < 4294967296) : Qcz .or .u32 a b = some (.int .u32 (Nat.lor a b : Nat)) := by
 have e : (BitVec.ofInt (IntKind.u32).bits (a : Int) ||| BitVec.ofInt (IntKind.u32).bits (b : Int)).toNat = Nat.lor a b := by
  show (BitVec.ofInt 32 (a : Int) ||| BitVec.ofInt 32 (b : Int)).toNat = _
  rw [BitVec.toNat_or, Qsr a ha, Qsr b hb]; rfl
 have l : Nat.lor a b < 4294967296 := Nat.or_lt_two_pow (n := 32) ha hb
 simp only [Qcz]; rw [e, Qy2, Nat.mod_eq_of_lt l]
theorem shlU (a k : Nat) (hk : k < 32) : Qcr .shl .u32 a k = some (.int .u32 (Nat.mod (Nat.shiftLeft a k) 4294967296 : Nat)) := by
 have e : min (k : Int).toNat (IntKind.u32).bits = k := by
  have : (k : Int).toNat = k := rfl
  rw [this]; show min k 32 = k; omega
 have e2 : (a : Int) * 2 ^ k = ((Nat.shiftLeft a k : Nat) : Int) := by
  show _ = ((a <<< k : Nat) : Int)
  rw [Nat.shiftLeft_eq]; simp
 simp only [Qcr, e, e2, Qy2]
 rw [if_neg (by omega)]; rfl
theorem shrU (a k : Nat) (hk : k < 32) : Qcr .shr .u32 a k = some (.int .u32 (Nat.shiftRight a k : Nat)) := by
 have e : min (k : Int).toNat (IntKind.u32).bits = k := by
  have : (k : Int).toNat = k := rfl
  rw [this]; show min k 32 = k; omega
 have e2 : (a : Int).fdiv (2 ^ k) = ((Nat.shiftRight a k : Nat) : Int) := by
  show _ = ((a >>> k : Nat) : Int)
  rw [Nat.shiftRight_eq_div_pow, Int.fdiv_eq_ediv_of_nonneg _ (Int.le_of_lt (Int.pow_pos (by decide)))]; simp
 simp only [Qcr, e, e2]
 rw [if_neg (by omega)]
theorem Qwd (x k : Nat) (hx : x < 4294967296) : Qfj x k < 4294967296 := by
 have a : Nat.mod (Nat.shiftLeft x k) 4294967296 < 4294967296 := Nat.mod_lt _ (by decide)
 have b : Nat.shiftRight x (32 - k) < 4294967296 := by
  have : Nat.shiftRight x (32 - k) = x >>> (32 - k) := rfl
  rw [this, Nat.shiftRight_eq_div_pow]
  exact Nat.lt_of_le_of_lt (Nat.div_le_self _ _) hx
 exact Nat.or_lt_two_pow (n := 32) a b
theorem Q19 (x k : Nat) (hx : x < 4294967296) (hk : k = 15 \/ k = 11 \/ k = 9 \/ k = 6) : Fz Tryz.prog Qz 272 [.int .u32 x, .int .i64 k] fun r => r = .int .u32 (Qfj x k : Nat) := by
 refine Js Tryz.func272 rfl ?_
 have k32 : k < 32 := by omega
 have cv : ∀ g, convertV Tryz.prog g 3 203 (.int .i64 k) = some (.val (.int .u64 k) none) := fun g => by
  rcases hk with rfl | rfl | rfl | rfl <;> kernel_rfl
 have bA : ∀ p q, Zz Tryz.prog .and 203 p q (.int .u64 k) (.int .u64 31) = some (.int .u64 k) := fun p q => by
  rcases hk with rfl | rfl | rfl | rfl <;> rfl
 have bS : ∀ p q, Zz Tryz.prog .sub 203 p q (.int .u64 32) (.int .u64 k) = some (.int .u64 ((32 - k : Nat) : Int)) := fun p q => by
  rcases hk with rfl | rfl | rfl | rfl <;> rfl
 have b1 : ∀ p q, Zz Tryz.prog .shl 27 p q (.int .u32 x) (.int .u64 k) = _ := fun p q => shlU x k k32
 have b2 : ∀ p q, Zz Tryz.prog .shr 27 p q (.int .u32 x) (.int .u64 ((32 - k : Nat) : Int)) = _ := fun p q => shrU x (32 - k) (by omega)
 have b3 : ∀ p q, Zz Tryz.prog .or 27 p q (.int .u32 (Nat.mod (Nat.shiftLeft x k) 4294967296 : Nat)) (.int .u32 (Nat.shiftRight x (32 - k) : Nat)) = _ := fun p q => orU _ _ (Nat.mod_lt _ (by decide)) (by
  have : Nat.shiftRight x (32 - k) = x >>> (32 - k) := rfl
  rw [this, Nat.shiftRight_eq_div_pow]
  exact Nat.lt_of_le_of_lt (Nat.div_le_self _ _) hx)
 generalize hr : (Nat.lor _ _ : Nat) = r at b3
 have er : Qfj x k = r := hr
 rw [er]
 generalize (Nat.mod (Nat.shiftLeft x k) 4294967296 : Nat) = u at b1 b3
 generalize (Nat.shiftRight x (32 - k) : Nat) = w at b2 b3
 generalize (32 - k : Nat) = m at bS b2
 simp only [Qn, Qg, Qf, Ql, Qa, Qc, nov, gd, rho, Qd, wr, Nat.reduceAdd, Nat.reduceSub, if_true, if_false, reduceIte, reduceCtorEq, Qi, Int.reduceBEq, Int.reduceBNe, Int.reduceLT, Int.reduceLE, ↓Qh, Tryz.ntmps272, ta, new, Qb, hset, Qu, Qs, Qp, Nat.reduceLT, Nat.reduceEqDiff, splice, zerosN, Qo, Qr, Qk, V.pure, Nat.reduceMul, Nat.reduceLeDiff, Qq, cv, bA, bS, b1, b2, b3]
 exact W.done (Zv.ret rfl rfl rfl)
end
section
set_option maxRecDepth 100000
open Go.AM Go.AM.BM
attribute [local irreducible] U W
def u32 (n : Nat) : V := .int .u32 n
def wc (x : W4) : List V := [.int .u32 x.a, .int .u32 x.b, .int .u32 x.c, .int .u32 x.d]
def zW : List V := [.int .u32 0, .int .u32 0, .int .u32 0, .int .u32 0]
def wok (x : W4) : Prop := x.a < 4294967296 /\ x.b < 4294967296 /\ x.c < 4294967296 /\ x.d < 4294967296
theorem Qli {α : Type} (x : Nat) (k : Nat -> α) : Qgx x k = k x := by
 unfold Qgx; cases x <;> rfl
theorem Quj (far near : Nat) (x : W4) : Qei far near x = ⟨Qbu x.a x.b, Qfj (Nat.xor x.b (Qbu x.c (Qfj (Nat.xor x.d (Qbu x.a x.b)) far))) near, Qbu x.c (Qfj (Nat.xor x.d (Qbu x.a x.b)) far), Qfj (Nat.xor x.d (Qbu x.a x.b)) far⟩ := by
 unfold Qei
 simp only [Qli]
theorem Qax (a b : Nat) : Qbu a b < 4294967296 := Nat.mod_lt _ (by decide)
theorem Qct {a b : Nat} (ha : a < 4294967296) (hb : b < 4294967296) : Nat.xor a b < 4294967296 := Nat.xor_lt_two_pow (n := 32) ha hb
theorem Qns {far near : Nat} {x : W4} (h : wok x) : wok (Qei far near x) := by
 obtain ⟨ha, hb, hc, hd⟩ := h
 rw [Quj]
 have h1 := Qwd _ far (Qct hd (Qax x.a x.b))
 exact ⟨Qax _ _, Qwd _ _ (Qct hb (Qax _ _)), Qax _ _, h1⟩
theorem ia0 (f s : Nat) : Q8 Tryz.prog 247 (.ptr f s 0) (.int .i64 0) = some (.ptr f s 0) := by simp only [Q8, Tryz.underlying247, Qr3]; rfl
theorem ia1 (f s : Nat) : Q8 Tryz.prog 247 (.ptr f s 0) (.int .i64 1) = some (.ptr f s 1) := by simp only [Q8, Tryz.underlying247, Qr3]; rfl
theorem ia2 (f s : Nat) : Q8 Tryz.prog 247 (.ptr f s 0) (.int .i64 2) = some (.ptr f s 2) := by simp only [Q8, Tryz.underlying247, Qr3]; rfl
theorem ia3 (f s : Nat) : Q8 Tryz.prog 247 (.ptr f s 0) (.int .i64 3) = some (.ptr f s 3) := by simp only [Q8, Tryz.underlying247, Qr3]; rfl
theorem Qzg (far near : Nat) (hf : far = 15 \/ far = 11 \/ far = 9 \/ far = 6) (hn : near = 15 \/ near = 11 \/ near = 9 \/ near = 6) (x : W4) (hx : wok x) :
 CW Tryz.prog Qz 271 [.int .i64 far, .int .i64 near, .ptr 0 1 0] [[(1, .cells (wc x)), (2, .cells zW)]] fun r H' => r = .ret (.tuple []) /\ H' = [[(1, .cells (wc (Qei far near x))), (2, .cells zW)]] := by
 refine Xm Tryz.func271 rfl ?_
 obtain ⟨a, b, c, d⟩ := x
 obtain ⟨ha, hb, hc, hd⟩ := hx
 simp only at ha hb hc hd
 have bA : ∀ p q (x y : Nat), Zz Tryz.prog .add 27 p q (.int .u32 x) (.int .u32 y) = some (.int .u32 (Qbu x y : Nat)) := fun p q x y => addU x y
 have x1 : ∀ p q, Zz Tryz.prog .xor 27 p q (.int .u32 d) (.int .u32 (Qbu a b : Nat)) = _ := fun p q => xorU d _ hd (Qax _ _)
 have l1 := Qct hd (Qax a b)
 rw [Quj]
 simp only [wc] at *
 generalize (Nat.xor d (Qbu a b) : Nat) = d1 at *
 obtain ⟨m, rfl, hm⟩ := (Q19 d1 far l1 hf).op (by rfl) rfl
 have hm' : ∀ s H, _ := fun s H => hm 271 1 s H rfl
 have l2 := Qwd d1 far l1
 generalize (Qfj d1 far : Nat) = d2 at *
 have x2 : ∀ p q, Zz Tryz.prog .xor 27 p q (.int .u32 b) (.int .u32 (Qbu c d2 : Nat)) = _ := fun p q => xorU b _ hb (Qax _ _)
 have l3 := Qct hb (Qax c d2)
 generalize (Nat.xor b (Qbu c d2) : Nat) = b1 at *
 obtain ⟨m2, rfl, hm2⟩ := (Q19 b1 near l3 hn).op (by rfl) rfl
 have hm2' : ∀ s H, _ := fun s H => hm2 271 1 s H rfl
 generalize (Qfj b1 near : Nat) = b2 at *
 simp only [Qn, Qg, Qf, Ql, Qa, Qc, nov, gd, rho, Qd, wr, Nat.reduceAdd, Nat.reduceSub, if_true, if_false, reduceIte, reduceCtorEq, Qi, Int.reduceBEq, Int.reduceBNe, Int.reduceLT, Int.reduceLE, ↓Qh, Tryz.ntmps271, ta, new, Qb, hset, Qu, Qs, Qp, Nat.reduceLT, Nat.reduceEqDiff, splice, zerosN, Qo, Qr, Qk, V.pure, Nat.reduceMul, Nat.reduceLeDiff, Qq, ia0, ia1, ia2, ia3, bA, x1, x2, hm', hm2']
 exact W.done (End.normal (v := .tuple []) rfl ⟨rfl, rfl⟩)
theorem sc_w (x : W4) : (wc x).all V.scalar = true := rfl
theorem ln_w (x : W4) : (wc x).length = 4 := rfl
theorem rd_w (x : W4) : Q2 Tryz.prog 247 (wc x) 0 = some (.agg (wc x)) := by rw [rd247]; rfl
theorem sp_w (x y : W4) : splice (wc x) 0 (wc y) = wc y := rfl
theorem sp_z (y : W4) : splice zW 0 (wc y) = wc y := rfl
theorem tk_w (x : W4) : (wc x).take 4 = wc x := rfl
theorem ln_z : zW.length = 4 := rfl
theorem Q1n (x : W4) (hx : wok x) : Fz Tryz.prog Qz 250 [.agg (wc x)] fun r => r = .agg (wc (Qge x)) := by
 refine Js Tryz.func250 rfl ?_
 obtain ⟨r1, K1, e1, rfl, rfl⟩ := Qzg 15 11 (by omega) (by omega) x hx
 obtain ⟨r2, K2, e2, rfl, rfl⟩ := Qzg 9 6 (by omega) (by omega) _ (Qns (far := 15) (near := 11) hx)
 have c1 : ∀ s, AM.callOp Qz (Q5 Tryz.prog Qz) 250 0 s 271 [.int .i64 15, .int .i64 11, .ptr 0 1 0] [[(1, .cells (wc x)), (2, .cells zW)]] = _ := fun s => Ko rfl rfl rfl e1
 have c2 : ∀ s, AM.callOp Qz (Q5 Tryz.prog Qz) 250 0 s 271 [.int .i64 9, .int .i64 6, .ptr 0 1 0] [[(1, .cells (wc (Qei 15 11 x))), (2, .cells zW)]] = _ := fun s => Ko rfl rfl rfl e2
 have ez : ([.int .u32 0, .int .u32 0, .int .u32 0, .int .u32 0] : List V) = zW := rfl
 have et : Qge x = Qei 9 6 (Qei 15 11 x) := rfl
 rw [et]
 simp only [Qn, Qg, Qf, Ql, Qa, Qc, nov, gd, rho, Qd, wr, Nat.reduceAdd, Nat.reduceSub, if_true, if_false, reduceIte, reduceCtorEq, Qi, Int.reduceBEq, Int.reduceBNe, Int.reduceLT, Int.reduceLE, ↓Qh, Tryz.ntmps250, ta, new, Qb, hset, Qu, Qs, Qp, Nat.reduceLT, Nat.reduceEqDiff, splice, zerosN, Qo, Qr, Qk, V.pure, Nat.reduceMul, Nat.reduceLeDiff, Qq, c1, c2, ez, sc_w, ln_w, rd_w, sp_w, sp_z, ln_z, tk_w]
 exact W.done (Zv.ret (v := .agg (wc (Qei 9 6 (Qei 15 11 x)))) rfl rfl rfl)
theorem Qmk {x : W4} (h : wok x) : wok (Qge x) := Qns (Qns h)
theorem Qvm (n : Nat) (x : W4) : Kq (n + 1) x = Kq n (Qge x) := rfl
theorem Qi9 : ∀ (n : Nat) {x : W4}, wok x -> wok (Kq n x)
 | 0, _, h => h
 | n + 1, x, h => by rw [Qvm]; exact Qi9 n (Qmk h)
theorem Qu0 (n : Nat) (hn : n < 1000) (x : W4) (hx : wok x) : Fz Tryz.prog Qz 221 [.agg (wc x), .int .i64 n] fun r => r = .agg (wc (Kq n x)) := by
 refine Js Tryz.func221 rfl ?_
 have ez : ([.int .u32 0, .int .u32 0, .int .u32 0, .int .u32 0] : List V) = zW := rfl
 simp only [Qn, Qg, Qf, Ql, Qa, Qc, nov, gd, rho, Qd, wr, Nat.reduceAdd, Nat.reduceSub, if_true, if_false, reduceIte, reduceCtorEq, Qi, Int.reduceBEq, Int.reduceBNe, Int.reduceLT, Int.reduceLE, ↓Qh, Tryz.ntmps221, ta, new, Qb, hset, Qu, Qs, Qp, Nat.reduceLT, Nat.reduceEqDiff, splice, zerosN, Qo, Qr, Qk, V.pure, Nat.reduceMul, Nat.reduceLeDiff, Qq, ez, sc_w, ln_w, rd_w, sp_w, sp_z, ln_z, tk_w]
 refine W.ul ?_
 refine W.loopS (kt := [2, 4, 5, 6]) rfl (fun a : Nat × W4 => Qyb (.ptr 0 2 0) (.ptr 0 4 0) (.int .i64 n) (.int .i64 a.1)) (fun a => [[(2, .cells (wc a.2)), (4, .cells zW)]]) (fun a => a.1 <= n /\ wok a.2 /\ Kq (n - a.1) a.2 = Kq n x) (fun a => n - a.1) ?_ (0, x) ⟨by simp, hx, rfl⟩ rfl rfl
 rintro ⟨i, y⟩ ⟨hi, hy, he⟩
 simp only at hi hy he
 simp only [Qyb]
 by_cases h : i < n
 . have c1 : decide ((i : Int) < n) = true := by simp; omega
   obtain ⟨m, rfl, hm⟩ := (Q1n y hy).op (by rfl) rfl
   have hm' : ∀ s H, _ := fun s H => hm 221 0 s H rfl
   have w1 : (IntKind.i64).wrap ((i : Int) + 1) = ((i + 1 : Nat) : Int) := by rw [wrap_i64] <;> omega
   simp only [Qn, Qg, Qf, Ql, Qa, Qc, nov, gd, rho, Qd, wr, Nat.reduceAdd, Nat.reduceSub, if_true, if_false, reduceIte, reduceCtorEq, Qi, Int.reduceBEq, Int.reduceBNe, Int.reduceLT, Int.reduceLE, ↓Qh, ta, new, Qb, hset, Qu, Qs, Qp, Nat.reduceLT, Nat.reduceEqDiff, splice, zerosN, Qo, Qr, Qk, V.pure, Nat.reduceMul, Nat.reduceLeDiff, Qq, c1, hm', w1, sc_w, ln_w, rd_w, sp_w, sp_z, ln_z, tk_w]
   refine W.done ⟨(i + 1, Qge y), rfl, rfl, ⟨by simp only; omega, Qmk hy, ?_⟩, by simp only; omega⟩
   rw [<- he]
   have : n - i = (n - (i + 1)) + 1 := by omega
   simp only
   rw [this]; rfl
 . have c1 : decide ((i : Int) < n) = false := by simp; omega
   have hn' : n - i = 0 := by omega
   rw [hn'] at he
   have he' : y = Kq n x := he
   subst he'
   simp only [Qn, Qg, Qf, Ql, Qa, Qc, nov, gd, rho, Qd, wr, Nat.reduceAdd, Nat.reduceSub, if_true, if_false, reduceIte, reduceCtorEq, Qi, Int.reduceBEq, Int.reduceBNe, Int.reduceLT, Int.reduceLE, ↓Qh, c1]
   refine W.done ?_
   simp only [Qn, Qg, Qf, Ql, Qa, Qc, nov, gd, rho, Qd, wr, Nat.reduceAdd, Nat.reduceSub, if_true, if_false, reduceIte, reduceCtorEq, Qi, Int.reduceBEq, Int.reduceBNe, Int.reduceLT, Int.reduceLE, ↓Qh, ta, new, Qb, hset, Qu, Qs, Qp, Nat.reduceLT, Nat.reduceEqDiff, splice, zerosN, Qo, Qr, Qk, V.pure, Nat.reduceMul, Nat.reduceLeDiff, Qq, c1, sc_w, ln_w, rd_w, sp_w, sp_z, ln_z, tk_w]
   exact W.done (Zv.ret (v := .agg (wc (Kq n x))) rfl rfl rfl)
end
end Go.Proofs.YtafhcdagifopeaaGreatDoor
