/- This file holds in one the texts E8, E9, E10, E11; each says at its head what it proves. -/
import Derived.Test.YtafhcdagifopeaaGreatDoorT31
import Derived.Test.YtafhcdagifopeaaGreatDoorT35
set_option linter.unusedSimpArgs false
set_option linter.unusedVariables false
namespace Go.Proofs.YtafhcdagifopeaaGreatDoor
section
set_option maxRecDepth 100000
open Go.AM
attribute [local irreducible] U W
theorem Qxq (v : V) (l : List (List UInt8)) (cs : List V) (hc : Qic cs l) (hv : Zo 1 v cs l.length) (hl : l.length <= 1000) (hk : ∀ k ∈ l, k.length <= 1000000) (many : Int) (hm : many = 24 \/ many = 16) :
 CW Tryz.prog Qz 50 [v, .func (.func 130) [] [.ptr 0 3 0]] [[(3, .cells [.int .i64 many])], []] fun r H => r = .ret (.int .i64 (J0 (Xn many) 0 l)) /\ H = [[(3, .cells [.int .i64 many])], []] := by
 refine Xm Tryz.func50 rfl ?_
 have len := hv.len Tryz.underlying22
 simp only [Qn, Qg, Qf, Ql, Qa, Qc, nov, gd, rho, Qd, wr, Nat.reduceAdd, Nat.reduceSub, if_true, if_false, reduceIte, reduceCtorEq, Qi, Int.reduceBEq, Int.reduceBNe, Int.reduceLT, Int.reduceLE, ↓Qh, Tryz.ntmps50, ta, new, Qb, hset, Qu, Qs, Qp, Nat.reduceLT, Nat.reduceEqDiff, splice, zerosN, Qo, Qr, Qk, V.pure, Nat.reduceMul, Nat.reduceLeDiff, Qq, Zja, Zki, len]
 refine W.ul ?_
 refine W.loopS (kt := [0, 1, 7, 8]) rfl (fun i : Nat => Q49 v (.func (.func 130) [] [.ptr 0 3 0]) (.int .i64 l.length) (.int .i64 i)) (fun _ => [[(3, .cells [.int .i64 many])], [], []]) (fun i => i <= l.length /\ J0 (Xn many) i (l.drop i) = J0 (Xn many) 0 l) (fun i => l.length - i) ?_ 0 ⟨by omega, rfl⟩ rfl rfl
 rintro i ⟨hi, hR⟩
 simp only [Q49]
 by_cases h : i < l.length
 . have c1 : decide ((i : Int) < l.length) = true := Zlq (by omega)
   have at1 := hv.at (k := .i64) Tryz.underlying22 Qi1 (by decide) (i := (i : Int)) (by omega) (by omega)
   obtain ⟨x, g0, hx⟩ := hc.at_ h
   have g1 : cs[(i : Int).toNat * 1]? = some x := by simpa using g0
   have g1' : cs[(i : Int).toNat]? = some x := by simpa using g0
   have w1 : (IntKind.i64).wrap ((i : Int) + 1) = ((i + 1 : Nat) : Int) := by rw [wrap_i64] <;> omega
   obtain ⟨r, H', e1, e2, rfl⟩ := Q4x x l[i] hx (hk _ (List.getElem_mem h)) many hm
   subst e2
   have hcall : ∀ d, callOp Qz (Q5 Tryz.prog Qz) 50 2 d 130 [x, .ptr 0 3 0] [[(3, .cells [.int .i64 many])], [], []] = _ := fun d => Ko rfl rfl rfl e1
   have hS : J0 (Xn many) i (l.drop i) = if Xn many l[i] then (i : Int) else J0 (Xn many) (i + 1) (l.drop (i + 1)) := by
    rw [Zlh h]; rfl
   rw [hR] at hS
   simp only [Qn, Qg, Qf, Ql, Qa, Qc, nov, gd, rho, Qd, wr, Nat.reduceAdd, Nat.reduceSub, if_true, if_false, reduceIte, reduceCtorEq, Qi, Int.reduceBEq, Int.reduceBNe, Int.reduceLT, Int.reduceLE, ↓Qh, c1, at1, rd26, g1, g1', hcall, ta, new, Qb, hset, Qu, Qs, Qp, Nat.reduceLT, Nat.reduceEqDiff, splice, zerosN, Qo, Qr, Qk, V.pure, Nat.reduceMul, Nat.reduceLeDiff, Qq, Zkg, Zkj]
   refine W.ite ?_ ?_ <;> intro h2 <;> simp only [Qn, Qg, Qf, Ql, Qa, Qc, nov, gd, rho, Qd, wr, Nat.reduceAdd, Nat.reduceSub, if_true, if_false, reduceIte, reduceCtorEq, Qi, Int.reduceBEq, Int.reduceBNe, Int.reduceLT, Int.reduceLE, ↓Qh, ta, new, Qb, hset, Qu, Qs, Qp, Nat.reduceLT, Nat.reduceEqDiff, w1]
   . refine W.done ?_
     simp only [Qn, Qg, Qf, Ql, Qa, Qc, nov, gd, rho, Qd, wr, Nat.reduceAdd, Nat.reduceSub, if_true, if_false, reduceIte, reduceCtorEq, Qi, Int.reduceBEq, Int.reduceBNe, Int.reduceLT, Int.reduceLE, ↓Qh]
     refine W.done (End.ret (v := .int .i64 (J0 (Xn many) 0 l)) ?_ ⟨rfl, rfl⟩)
     rw [hS, h2]; rfl
   . refine W.done ⟨i + 1, rfl, rfl, ⟨by omega, ?_⟩, by omega⟩
     rw [hS, h2]; rfl
 . have c1 : decide ((i : Int) < l.length) = false := Zlr (by omega)
   simp only [Qn, Qg, Qf, Ql, Qa, Qc, nov, gd, rho, Qd, wr, Nat.reduceAdd, Nat.reduceSub, if_true, if_false, reduceIte, reduceCtorEq, Qi, Int.reduceBEq, Int.reduceBNe, Int.reduceLT, Int.reduceLE, ↓Qh, c1]
   refine W.done ?_
   simp only [Qn, Qg, Qf, Ql, Qa, Qc, nov, gd, rho, Qd, wr, Nat.reduceAdd, Nat.reduceSub, if_true, if_false, reduceIte, reduceCtorEq, Qi, Int.reduceBEq, Int.reduceBNe, Int.reduceLT, Int.reduceLE, ↓Qh]
   refine W.done (End.ret (v := .int .i64 (J0 (Xn many) 0 l)) ?_ ⟨rfl, rfl⟩)
   rw [<- hR, Zkz (by omega)]; rfl
theorem Qvu (v : V) (l : List (List UInt8)) (cs : List V) (hc : Qic cs l) (hv : Zo 1 v cs l.length) (hl : l.length <= 1000) (hk : ∀ k ∈ l, k.length <= 1000000) (many : Int) (hm : many = 24 \/ many = 16) :
 CW Tryz.prog Qz 131 [v, .func (.func 130) [] [.ptr 0 3 0]] [[(3, .cells [.int .i64 many])]] fun r H => r = .ret (.bool (l.any (Xn many))) /\ H = [[(3, .cells [.int .i64 many])]] := by
 refine Xm Tryz.func131 rfl ?_
 obtain ⟨r, H', e1, e2, rfl⟩ := Qxq v l cs hc hv hl hk many hm
 subst e2
 have hcall : ∀ d, callOp Qz (Q5 Tryz.prog Qz) 131 1 d 50 [v, .func (.func 130) [] [.ptr 0 3 0]] [[(3, .cells [.int .i64 many])], []] = _ := fun d => Ko rfl rfl rfl e1
 simp only [Qn, Qg, Qf, Ql, Qa, Qc, nov, gd, rho, Qd, wr, Nat.reduceAdd, Nat.reduceSub, if_true, if_false, reduceIte, reduceCtorEq, Qi, Int.reduceBEq, Int.reduceBNe, Int.reduceLT, Int.reduceLE, ↓Qh, Tryz.ntmps131, ta, new, Qb, hset, Qu, Qs, Qp, Nat.reduceLT, Nat.reduceEqDiff, splice, zerosN, Qo, Qr, Qk, V.pure, Nat.reduceMul, Nat.reduceLeDiff, Qq, Zja, Zki, Zkg, Zkj, hcall, Qjz]
 exact W.done (End.ret (v := .bool (l.any (Xn many))) rfl ⟨rfl, rfl⟩)
theorem Qm0 (v : V) (l : List (List UInt8)) (hv : Qi5 v l) (hl : l.length <= 1000) (hk : ∀ k ∈ l, k.length <= 1000000) (many : Int) (hm : many = 24 \/ many = 16) :
 Fz Tryz.prog Qz 81 [v, .int .i64 many] fun x => x = .bool (Qb9 l many) := by
 refine Js Tryz.func81 rfl ?_
 obtain ⟨cs, hc, hv⟩ := hv
 have len := hv.len Tryz.underlying22
 obtain ⟨r, H', e1, e2, rfl⟩ := Qvu v l cs hc hv hl hk many hm
 subst e2
 have hcall : ∀ d, callOp Qz (Q5 Tryz.prog Qz) 81 0 d 131 [v, .func (.func 130) [] [.ptr 0 3 0]] [[(3, .cells [.int .i64 many])]] = _ := fun d => Ko rfl rfl rfl e1
 simp only [Qn, Qg, Qf, Ql, Qa, Qc, nov, gd, rho, Qd, wr, Nat.reduceAdd, Nat.reduceSub, if_true, if_false, reduceIte, reduceCtorEq, Qi, Int.reduceBEq, Int.reduceBNe, Int.reduceLT, Int.reduceLE, ↓Qh, Tryz.ntmps81, ta, new, Qb, hset, Qu, Qs, Qp, Nat.reduceLT, Nat.reduceEqDiff, splice, zerosN, Qo, Qr, Qk, V.pure, Nat.reduceMul, Nat.reduceLeDiff, Qq, len, hcall]
 repeat' ((first | refine W.guardF ?_ ?_ | refine W.guardT ?_ ?_ | refine W.guardXF ?_ ?_ | refine W.guardXT ?_ ?_ | refine W.ite ?_ ?_ | refine W.opsK1 (by kernel_rfl) ?_) <;> intro h <;> simp only [Qn, Qg, Qf, Ql, Qa, Qc, nov, gd, rho, Qd, wr, Nat.reduceAdd, Nat.reduceSub, if_true, if_false, reduceIte, reduceCtorEq, Qi, Int.reduceBEq, Int.reduceBNe, Int.reduceLT, Int.reduceLE, ↓Qh, h, ta, new, Qb, hset, Qu, Qs, Qp, Nat.reduceLT, Nat.reduceEqDiff, len, hcall])
 all_goals refine W.done (Zv.ret rfl rfl ?_)
 all_goals first | rfl | (simp only [Qb9, *, Jt, if_true, if_false]; try rfl)
end
section
set_option maxRecDepth 100000
open Go.AM
attribute [local irreducible] U W
theorem Q6o (C : AM.Call) (fn fr : Nat) (d : Option Nat) (H : Heap) (v : V) (l : List UInt8) (hv : Q1 v l) (c : UInt8) :
 callOp Qz C fn fr d 217 [v, .int .u8 c.toNat] H = some (.ret (.int .i64 (l.count c)), H) := by
 have e : Qz.prim 217 = some Y8 := rfl
 simp only [callOp, e, Y8, hv.bytesV, Zit, wr, Lib.countByte]
 simp
theorem max_fz (v : V) (b : UInt8) (l : List UInt8) (hv : Q1 v (b :: l)) (hl : l.length + 1 <= 281474976710656) :
 Fz Tryz.prog Qz 185 [v] fun r => r = .int .u8 (Y5 b.toNat l) := by
 obtain ⟨r, H, e1, rfl⟩ := Q4g v b l hv hl
 exact ⟨_, _, _, e1, rfl, rfl⟩
theorem Q3o (v w : V) (l : List UInt8) (c : UInt8) (hv : Q1 v l) (hw : Q1 w [c]) :
 Fz Tryz.prog Qz 186 [v, w] fun r => r = .int .i64 (l.count c) := by
 refine Js Tryz.func186 rfl ?_
 have len := hw.len Tryz.underlying26
 have at0 := hw.at (k := .i64) Tryz.underlying26 sz5 (by decide) (i := 0) (by omega) (by simp)
 have get0 : (Qj [c])[(0 : Int).toNat * 1]? = some (.int .u8 c.toNat) := rfl
 have c1 : ((([c] : List UInt8).length : Int) == 0) = false := rfl
 have c2 : ((([c] : List UInt8).length : Int) == 1) = true := rfl
 have ct : ∀ d, callOp Qz (Q5 Tryz.prog Qz) 186 0 d 217 [v, .int .u8 c.toNat] [[]] = some (.ret (.int .i64 (l.count c)), [[]]) := fun d => Q6o _ _ _ _ _ v l hv c
 generalize hn : ([c] : List UInt8).length = n at *
 simp only [Qn, Qg, Qf, Ql, Qa, Qc, nov, gd, rho, Qd, wr, Nat.reduceAdd, Nat.reduceSub, if_true, if_false, reduceIte, reduceCtorEq, Qi, Int.reduceBEq, Int.reduceBNe, Int.reduceLT, Int.reduceLE, ↓Qh, ta, new, Qb, hset, Qu, Qs, Qp, Nat.reduceLT, Nat.reduceEqDiff, Tryz.ntmps186, len, at0, rd5, get0, c1, c2, ct]
 exact W.done (Zv.ret rfl rfl rfl)
theorem Qlg (n : Int) : ∀ (l : List UInt8) (m : Int), Y5 m l <= n ↔ m <= n /\ ∀ b ∈ l, (b.toNat : Int) <= n
 | [], m => by simp [Y5]
 | b :: l, m => by
   have e : Y5 m (b :: l) = Y5 (if (b.toNat : Int) > m then b.toNat else m) l := rfl
   rw [e, Qlg n l]
   split
   . constructor
     . rintro ⟨h1, h2⟩; exact ⟨by omega, by simpa using ⟨h1, h2⟩⟩
     . rintro ⟨h1, h2⟩; simp at h2; exact ⟨h2.1, h2.2⟩
   . constructor
     . rintro ⟨h1, h2⟩; exact ⟨h1, by simp; exact ⟨by omega, h2⟩⟩
     . rintro ⟨h1, h2⟩; simp at h2; exact ⟨h1, h2.2⟩
theorem Qot (v : V) (l : List UInt8) (hv : Q1 v l) :
 Fz Tryz.prog Qz 127 [v] fun r => r = .int .i64 (if B3 l then 0 else 8) := by
 refine Js Tryz.func127 rfl ?_
 have len := hv.len Tryz.underlying26
 simp only [Qn, Qg, Qf, Ql, Qa, Qc, nov, gd, rho, Qd, wr, Nat.reduceAdd, Nat.reduceSub, if_true, if_false, reduceIte, reduceCtorEq, Qi, Int.reduceBEq, Int.reduceBNe, Int.reduceLT, Int.reduceLE, ↓Qh, ta, new, Qb, hset, Qu, Qs, Qp, Nat.reduceLT, Nat.reduceEqDiff, Tryz.ntmps127, len]
 by_cases h1 : l.length = 256
 . have c1 : ((l.length : Int) != 256) = false := by simp [h1]
   match l, h1 with
   | b :: l', h1 =>
   obtain ⟨m, rfl, hm⟩ := (max_fz v b l' hv (by simp at h1; omega)).op (by rfl) (Qt (hv.frz _) rfl)
   have hm' : ∀ d, _ := fun d => hm 127 0 d [[]] rfl
   generalize hL : b :: l' = L at *
   obtain ⟨w, hw, hw'⟩ := hv.cut Tryz.underlying26 sz5 none (some 12) (by simp) (by simp) (by simp; omega)
   simp only [Zkc, Zit] at hw
   have bs : Q1 (.iS [.int .u8 1] 1 true) [1] := Q1.mk [1] true
   obtain ⟨m, rfl, hc⟩ := (Q3o _ _ _ 1 hw' bs).op (by rfl) (Qt (hw'.frz _) (Qt (bs.frz _) rfl))
   have hc' : ∀ d, _ := fun d => hc 127 0 d [[]] rfl
   have e1 : L.take 12 = (List.drop ((none : Option Int).getD 0).toNat L).take (((some 12 : Option Int).getD L.length).toNat - ((none : Option Int).getD 0).toNat) := rfl
   rw [<- e1] at hc'
   have e2 : Y5 b.toNat l' <= 2 ↔ (L.all fun b => b <= 2) = true := by
    rw [Qlg, <- hL]
    simp only [List.all_cons, Zjj, decide_eq_true_eq, Zjk, le2]
   have z1 : zeroCells Tryz.prog 5 = some [.int .u8 0] := zc5
   simp only [Qn, Qg, Qf, Ql, Qa, Qc, nov, gd, rho, Qd, wr, Nat.reduceAdd, Nat.reduceSub, if_true, if_false, reduceIte, reduceCtorEq, Qi, Int.reduceBEq, Int.reduceBNe, Int.reduceLT, Int.reduceLE, ↓Qh, ta, new, Qb, hset, Qu, Qs, Qp, Nat.reduceLT, Nat.reduceEqDiff, c1, hm']
   refine W.guard (fun g1 => ?_) (fun g1 => ?_)
   . have g2 : Y5 b.toNat l' <= 2 := by have := of_decide_eq_false g1; omega
     have g3 : B3 L = ((L.take 12).count 1 == 12) := by simp only [B3, h1, beq_self_eq_true, Zks, e2.1 g2]
     have mt0 : ∀ s, Qz.mt 127 s = false := fun s => rfl
     simp only [Qn, Qg, Qf, Ql, Qa, Qc, nov, gd, rho, Qd, wr, Nat.reduceAdd, Nat.reduceSub, if_true, if_false, reduceIte, reduceCtorEq, Qi, Int.reduceBEq, Int.reduceBNe, Int.reduceLT, Int.reduceLE, ↓Qh, ta, new, Qb, hset, Qu, Qs, Qp, Nat.reduceLT, Nat.reduceEqDiff, g1, hw, Tryz.underlying26, sz5, z1, mt0, hc', splice, zerosN, Qo, Qr, Qk, V.pure, Nat.reduceMul, Nat.reduceLeDiff, Qq]
     refine W.ite (fun g4 => ?_) (fun g4 => ?_)
     . simp only [Qn, Qg, Qf, Ql, Qa, Qc, nov, gd, rho, Qd, wr, Nat.reduceAdd, Nat.reduceSub, if_true, if_false, reduceIte, reduceCtorEq, Qi, Int.reduceBEq, Int.reduceBNe, Int.reduceLT, Int.reduceLE, ↓Qh, ta, new, Qb, hset, Qu, Qs, Qp, Nat.reduceLT, Nat.reduceEqDiff]
       refine W.done (Zv.ret rfl rfl ?_)
       have g5 := bne_iff_ne.1 g4
       have g6 : (List.count 1 (List.take 12 L) == 12) = false := beq_false_of_ne fun e => g5 (by rw [e]; rfl)
       show V.int .i64 8 = _
       rw [g3, g6]
       rfl
     . simp only [Qn, Qg, Qf, Ql, Qa, Qc, nov, gd, rho, Qd, wr, Nat.reduceAdd, Nat.reduceSub, if_true, if_false, reduceIte, reduceCtorEq, Qi, Int.reduceBEq, Int.reduceBNe, Int.reduceLT, Int.reduceLE, ↓Qh, ta, new, Qb, hset, Qu, Qs, Qp, Nat.reduceLT, Nat.reduceEqDiff]
       refine W.done (Zv.ret rfl rfl ?_)
       have g5 : ((List.count 1 (List.take 12 L) : Nat) : Int) = 12 := by simpa using g4
       have g6 : (List.count 1 (List.take 12 L) == 12) = true := beq_iff_eq.2 (by omega)
       show V.int .i64 0 = _
       rw [g3, g6]
       rfl
   . have g2 : ¬ Y5 b.toNat l' <= 2 := by have := of_decide_eq_true g1; omega
     have g3 : B3 L = false := by
      have : (L.all fun b => b <= 2) = false := Zk9.2 fun h => g2 (e2.2 h)
      simp only [B3, this, Bool.and_false, Zle]
     simp only [Qn, Qg, Qf, Ql, Qa, Qc, nov, gd, rho, Qd, wr, Nat.reduceAdd, Nat.reduceSub, if_true, if_false, reduceIte, reduceCtorEq, Qi, Int.reduceBEq, Int.reduceBNe, Int.reduceLT, Int.reduceLE, ↓Qh, ta, new, Qb, hset, Qu, Qs, Qp, Nat.reduceLT, Nat.reduceEqDiff, g1]
     refine W.done (Zv.ret rfl rfl ?_)
     rw [g3]; rfl
 . have c1 : ((l.length : Int) != 256) = true := by simp; omega
   have e : B3 l = false := by simp [B3, h1]
   simp only [Qn, Qg, Qf, Ql, Qa, Qc, nov, gd, rho, Qd, wr, Nat.reduceAdd, Nat.reduceSub, if_true, if_false, reduceIte, reduceCtorEq, Qi, Int.reduceBEq, Int.reduceBNe, Int.reduceLT, Int.reduceLE, ↓Qh, ta, new, Qb, hset, Qu, Qs, Qp, Nat.reduceLT, Nat.reduceEqDiff, c1]
   exact W.done (Zv.ret rfl rfl (by rw [e]; rfl))
end
section
set_option maxRecDepth 100000
open Go.AM
attribute [local irreducible] U W
theorem Qo1 (bv wv sv : V) (d : Int) (hd : Fz Tryz.prog Qz 126 [.agg [bv, wv]] fun x => x = .int .i64 d) (hf : frz (fun _ _ => none) depth (.agg [bv, wv]) = some (.agg [bv, wv])) (sb : bv.scalar = true) (sw : wv.scalar = true)
 (space : List UInt8) (hs : Q1 sv space) (epoch count : Int) :
 Fz Tryz.prog Qz 78 [.agg [bv, wv, sv, .int .u32 epoch, .int .u32 count]] fun x => x = .int .i64 (okE (Qdk d (B3 space) epoch count)) := by
 refine Js Tryz.func78 rfl ?_
 have ss := Qcq hs
 obtain ⟨m, rfl, hm⟩ := hd.op (by rfl) (Qt hf rfl)
 have hm1 : ∀ s H, _ := fun s H => hm 78 0 s H rfl
 obtain ⟨m, rfl, hm⟩ := (Qot sv space hs).op (by rfl) (Qt (hs.frz _) rfl)
 have hm2 : ∀ s H, _ := fun s H => hm 78 0 s H rfl
 simp only [okE_if] at hm2
 simp only [Qn, Qg, Qf, Ql, Qa, Qc, nov, gd, rho, Qd, wr, Nat.reduceAdd, Nat.reduceSub, if_true, if_false, reduceIte, reduceCtorEq, Qi, Int.reduceBEq, Int.reduceBNe, Int.reduceLT, Int.reduceLE, ↓Qh, Tryz.ntmps78, ta, new, Qb, hset, Qu, Qs, Qp, Nat.reduceLT, Nat.reduceEqDiff, splice, zerosN, Qo, Qr, Qk, V.pure, Nat.reduceMul, Nat.reduceLeDiff, Qq, sb, sw, ss, hm1, hm2, Kt]
 repeat' ((first | refine W.guardF ?_ ?_ | refine W.guardT ?_ ?_ | refine W.guardXF ?_ ?_ | refine W.guardXT ?_ ?_ | refine W.ite ?_ ?_ | refine W.opsK1 (by kernel_rfl) ?_) <;> intro h <;> simp only [Qn, Qg, Qf, Ql, Qa, Qc, nov, gd, rho, Qd, wr, Nat.reduceAdd, Nat.reduceSub, if_true, if_false, reduceIte, reduceCtorEq, Qi, Int.reduceBEq, Int.reduceBNe, Int.reduceLT, Int.reduceLE, ↓Qh, h, ta, new, Qb, hset, Qu, Qs, Qp, Nat.reduceLT, Nat.reduceEqDiff, splice, zerosN, Qo, Qr, Qk, V.pure, Nat.reduceMul, Nat.reduceLeDiff, Qq, sb, sw, ss, hm1, hm2, Kt])
 all_goals refine W.done (Zv.ret rfl rfl ?_)
 all_goals first | rfl | (simp only [okE, Qdk, *, Jt, if_true, if_false]; try rfl)
/-! ### Numbers given out -/
theorem Q0o (F : AM.Frame) (pc : List V) (hw : Zn (fun f _ => Nat.ble 1 f) F = true) (hF : Qu F 1 = some (.cells pc)) (hpl : pc.length = 19) (nid ng : Int) (h17 : pc[17]? = some (.int .i64 nid)) (h18 : pc[18]? = some (.int .u32 ng)) (l : Jn) (dv : V) (hd : Qdv dv l.dead) :
 CW Tryz.prog Qz 86 [.agg (Ku l dv), .ptr 0 1 0] [F, [], []] fun r H => r = .ret (.bool (J5 nid ng l)) /\ H = [F, [], []] := by
 refine Xm Tryz.func86 rfl ?_
 have sc := Qcq hd
 obtain ⟨id, kind, owner, prev, txg, guid, key, root, dead⟩ := l
 obtain ⟨ra, rb, rc, rd, re⟩ := root
 simp only [Ku]
 simp only [Qn, Qg, Qf, Ql, Qa, Qc, nov, gd, rho, Qd, wr, Nat.reduceAdd, Nat.reduceSub, if_true, if_false, reduceIte, reduceCtorEq, Qi, Int.reduceBEq, Int.reduceBNe, Int.reduceLT, Int.reduceLE, ↓Qh, Tryz.ntmps86, ta, new, Qb, hset, Qu, Qs, Qp, Nat.reduceLT, Nat.reduceEqDiff, splice, zerosN, Qo, Qr, Qk, V.pure, Nat.reduceMul, Nat.reduceLeDiff, Qq, Zja, Zki, Zkg, Zkj, sc, hF, h17, h18]
 repeat' ((first | refine W.guardF ?_ ?_ | refine W.guardT ?_ ?_ | refine W.guardXF ?_ ?_ | refine W.guardXT ?_ ?_ | refine W.ite ?_ ?_ | refine W.opsK1 (by kernel_rfl) ?_) <;> intro h <;> simp only [Qn, Qg, Qf, Ql, Qa, Qc, nov, gd, rho, Qd, wr, Nat.reduceAdd, Nat.reduceSub, if_true, if_false, reduceIte, reduceCtorEq, Qi, Int.reduceBEq, Int.reduceBNe, Int.reduceLT, Int.reduceLE, ↓Qh, h, ta, new, Qb, hset, Qu, Qs, Qp, Nat.reduceLT, Nat.reduceEqDiff, sc, hF, h17, h18])
 all_goals refine W.done (End.ret (v := .bool (J5 nid ng ⟨id, kind, owner, prev, txg, guid, key, ⟨ra, rb, rc, rd, re⟩, dead⟩)) ?_ ⟨rfl, pop3 rfl hw⟩)
 all_goals simp only [J5, *, Zks, Zle, Bool.true_or, Bool.or_true, Zku, Bool.or_false]
 all_goals rfl
theorem Qs6 (v : V) (l : List Jn) (cs : List V) (hc : LinesC cs l) (hv : Zo 13 v cs l.length) (hl : l.length <= 1000000) (F : AM.Frame) (pc : List V) (hw : Zn (fun f _ => Nat.ble 1 f) F = true) (hF : Qu F 1 = some (.cells pc)) (hpl : pc.length = 19) (nid ng : Int) (h17 : pc[17]? = some (.int .i64 nid)) (h18 : pc[18]? = some (.int .u32 ng)) :
 CW Tryz.prog Qz 97 [v, .func (.func 86) [] [.ptr 0 1 0]] [F, []] fun r H => r = .ret (.int .i64 (J0 (J5 nid ng) 0 l)) /\ H = [F, []] := by
 refine Xm Tryz.func97 rfl ?_
 have len := hv.len Tryz.underlying33
 simp only [Qn, Qg, Qf, Ql, Qa, Qc, nov, gd, rho, Qd, wr, Nat.reduceAdd, Nat.reduceSub, if_true, if_false, reduceIte, reduceCtorEq, Qi, Int.reduceBEq, Int.reduceBNe, Int.reduceLT, Int.reduceLE, ↓Qh, Tryz.ntmps97, ta, new, Qb, hset, Qu, Qs, Qp, Nat.reduceLT, Nat.reduceEqDiff, splice, zerosN, Qo, Qr, Qk, V.pure, Nat.reduceMul, Nat.reduceLeDiff, Qq, Zja, Zki, len]
 refine W.ul ?_
 refine W.loopS (kt := [0, 1, 7, 8]) rfl (fun i : Nat => Q3u v (.func (.func 86) [] [.ptr 0 1 0]) (.int .i64 l.length) (.int .i64 i)) (fun _ => [F, [], []]) (fun i => i <= l.length /\ J0 (J5 nid ng) i (l.drop i) = J0 (J5 nid ng) 0 l) (fun i => l.length - i) ?_ 0 ⟨by omega, rfl⟩ rfl rfl
 rintro i ⟨hi, hR⟩
 simp only [Q3u]
 by_cases h : i < l.length
 . have c1 : decide ((i : Int) < l.length) = true := Zlq (by omega)
   have at1 := hv.at (k := .i64) Tryz.underlying33 Qri (by decide) (i := (i : Int)) (by omega) (by omega)
   obtain ⟨dv, hdv, ld⟩ := hc.ld h
   have ld1 : ∀ g, ldV Tryz.prog 62 g (.iptr cs ((i : Int).toNat * 13)) = _ := ld
   have w1 : (IntKind.i64).wrap ((i : Int) + 1) = ((i + 1 : Nat) : Int) := by rw [wrap_i64] <;> omega
   obtain ⟨r, H', e1, e2, rfl⟩ := Q0o F pc hw hF hpl nid ng h17 h18 l[i] dv hdv
   subst e2
   have hcall : ∀ d, callOp Qz (Q5 Tryz.prog Qz) 97 2 d 86 [.agg (Ku l[i] dv), .ptr 0 1 0] [F, [], []] = _ := fun d => Ko rfl rfl rfl e1
   have hS : J0 (J5 nid ng) i (l.drop i) = if J5 nid ng l[i] then (i : Int) else J0 (J5 nid ng) (i + 1) (l.drop (i + 1)) := by
    rw [Zlh h]; rfl
   rw [hR] at hS
   simp only [Qn, Qg, Qf, Ql, Qa, Qc, nov, gd, rho, Qd, wr, Nat.reduceAdd, Nat.reduceSub, if_true, if_false, reduceIte, reduceCtorEq, Qi, Int.reduceBEq, Int.reduceBNe, Int.reduceLT, Int.reduceLE, ↓Qh, c1, at1, ld1, hcall, ta, new, Qb, hset, Qu, Qs, Qp, Nat.reduceLT, Nat.reduceEqDiff, splice, zerosN, Qo, Qr, Qk, V.pure, Nat.reduceMul, Nat.reduceLeDiff, Qq, Zkg, Zkj]
   refine W.ite ?_ ?_ <;> intro h2 <;> simp only [Qn, Qg, Qf, Ql, Qa, Qc, nov, gd, rho, Qd, wr, Nat.reduceAdd, Nat.reduceSub, if_true, if_false, reduceIte, reduceCtorEq, Qi, Int.reduceBEq, Int.reduceBNe, Int.reduceLT, Int.reduceLE, ↓Qh, ta, new, Qb, hset, Qu, Qs, Qp, Nat.reduceLT, Nat.reduceEqDiff, w1]
   . refine W.done ?_
     simp only [Qn, Qg, Qf, Ql, Qa, Qc, nov, gd, rho, Qd, wr, Nat.reduceAdd, Nat.reduceSub, if_true, if_false, reduceIte, reduceCtorEq, Qi, Int.reduceBEq, Int.reduceBNe, Int.reduceLT, Int.reduceLE, ↓Qh]
     refine W.done (End.ret (v := .int .i64 (J0 (J5 nid ng) 0 l)) ?_ ⟨rfl, pop2 rfl hw⟩)
     rw [hS, h2]; rfl
   . refine W.done ⟨i + 1, rfl, rfl, ⟨by omega, ?_⟩, by omega⟩
     rw [hS, h2]; rfl
 . have c1 : decide ((i : Int) < l.length) = false := Zlr (by omega)
   simp only [Qn, Qg, Qf, Ql, Qa, Qc, nov, gd, rho, Qd, wr, Nat.reduceAdd, Nat.reduceSub, if_true, if_false, reduceIte, reduceCtorEq, Qi, Int.reduceBEq, Int.reduceBNe, Int.reduceLT, Int.reduceLE, ↓Qh, c1]
   refine W.done ?_
   simp only [Qn, Qg, Qf, Ql, Qa, Qc, nov, gd, rho, Qd, wr, Nat.reduceAdd, Nat.reduceSub, if_true, if_false, reduceIte, reduceCtorEq, Qi, Int.reduceBEq, Int.reduceBNe, Int.reduceLT, Int.reduceLE, ↓Qh]
   refine W.done (End.ret (v := .int .i64 (J0 (J5 nid ng) 0 l)) ?_ ⟨rfl, pop2 rfl hw⟩)
   rw [<- hR, Zkz (by omega)]; rfl
theorem Qst (v : V) (l : List Jn) (cs : List V) (hc : LinesC cs l) (hv : Zo 13 v cs l.length) (hl : l.length <= 1000000) (F : AM.Frame) (pc : List V) (hw : Zn (fun f _ => Nat.ble 1 f) F = true) (hF : Qu F 1 = some (.cells pc)) (hpl : pc.length = 19) (nid ng : Int) (h17 : pc[17]? = some (.int .i64 nid)) (h18 : pc[18]? = some (.int .u32 ng)) :
 CW Tryz.prog Qz 85 [v, .func (.func 86) [] [.ptr 0 1 0]] [F] fun r H => r = .ret (.bool (l.any (J5 nid ng))) /\ H = [F] := by
 refine Xm Tryz.func85 rfl ?_
 obtain ⟨r, H', e1, e2, rfl⟩ := Qs6 v l cs hc hv hl F pc hw hF hpl nid ng h17 h18
 subst e2
 have hcall : ∀ d, callOp Qz (Q5 Tryz.prog Qz) 85 1 d 97 [v, .func (.func 86) [] [.ptr 0 1 0]] [F, []] = _ := fun d => Ko rfl rfl rfl e1
 simp only [Qn, Qg, Qf, Ql, Qa, Qc, nov, gd, rho, Qd, wr, Nat.reduceAdd, Nat.reduceSub, if_true, if_false, reduceIte, reduceCtorEq, Qi, Int.reduceBEq, Int.reduceBNe, Int.reduceLT, Int.reduceLE, ↓Qh, Tryz.ntmps85, ta, new, Qb, hset, Qu, Qs, Qp, Nat.reduceLT, Nat.reduceEqDiff, splice, zerosN, Qo, Qr, Qk, V.pure, Nat.reduceMul, Nat.reduceLeDiff, Qq, Zja, Zki, Zkg, Zkj, hcall, Qjz]
 exact W.done (End.ret (v := .bool (l.any (J5 nid ng))) rfl ⟨rfl, pop1 rfl hw⟩)
end
section
set_option maxRecDepth 100000
open Go.AM
attribute [local irreducible] U W
theorem _root_.Go.AM.ChangesC.ld {ls : List Ji} {cs : List V} {i : Nat} (h : ChangesC cs ls) (hi : i < ls.length) : ∃ dv, Qgm dv ls[i].n /\ (∀ g, ldV Tryz.prog 107 g (.iptr cs (i * 12)) = some (.agg (Jd ls[i] dv))) := by
 obtain ⟨dv, h1, h2⟩ := h.at_ (Zis hi)
 refine ⟨dv, h2, fun g => ?_⟩
 show Q2 Tryz.prog 107 cs (i * 12) = _
 have := h.len
 rw [rd107, if_pos (by omega), h1]
structure Q24 (bv wv sv mv lv kv ov cv : V) (d : Int) (space : List UInt8) (p : Qj6) : Prop where
 dev : Fz Tryz.prog Qz 126 [.agg [bv, wv]] fun x => x = .int .i64 d
 frz : frz (fun _ _ => none) depth (.agg [bv, wv]) = some (.agg [bv, wv])
 frz0 : ∀ g m, AM.frz g (m + 10) bv = some bv /\ AM.frz g (m + 10) wv = some wv
 nr : ∀ q, bv.refs q = false /\ wv.refs q = false
 sb : bv.scalar = true
 sw : wv.scalar = true
 space : Q1 sv space
 own : Ba mv p.own
 lines : Qgd lv p.lines
 keys : Qi5 kv p.keys
 loaded : Qi5 ov p.loaded
 changes : Qda cv p.changes
 fit : p.own.length <= 1000000 /\ p.lines.length <= 1000000 /\ p.changes.length <= 1000000 /\ p.keys.length <= 1000 /\ p.loaded.length <= 1000 /\ (∀ k ∈ p.keys, k.length <= 1000000) /\ (∀ k ∈ p.loaded, k.length <= 1000000)
end
end Go.Proofs.YtafhcdagifopeaaGreatDoor
