/- This file holds in one the texts E3, E4, E5, E6, E7, E8, E9; each says at its head what it proves. -/
import Derived.Test.YtgnnlchhfiomgaaGreatDoorT31
import Derived.Test.YtgnnlchhfiomgaaGreatDoorT34
set_option linter.unusedSimpArgs false
set_option linter.unusedVariables false
namespace Go.Proofs.YtgnnlchhfiomgaaGreatDoor
section
set_option maxRecDepth 100000
open Go.AM
attribute [local irreducible] U W
theorem Qba (x y : Operand) : Zz Tryz.prog .eql 76 x y .nP .nP = some (.bool true) := by
 have hg : (Tryz.prog).eqGuardType (Tryz.prog).depth 76 = false := by kernel_rfl
 simp only [Zz, Qjy, Tryz.underlying76, hg, eqV, Zjv, if_false]
 rfl
theorem Qa7 (x y : Operand) (cs : List V) (o : Nat) : Zz Tryz.prog .eql 76 x y (.iptr cs o) .nP = some (.bool false) := by
 have hg : (Tryz.prog).eqGuardType (Tryz.prog).depth 76 = false := by kernel_rfl
 simp only [Zz, Qjy, Tryz.underlying76, hg, eqV, Zjv, if_false]
 rfl
theorem kin_fz (v : V) (ls : List Jj) (hv : Qgd v ls) (hl : ls.length <= 1000000) (x : Jj) (dv : V) (hd : Qd4 dv x.dead) :
 Fz Tryz.prog Qz 82 [v, .agg (Ky x dv)] fun y => y = .bool (Qqk ls x) := by
 refine Jt Tryz.func82 rfl ?_
 obtain ⟨cs, hc, hv⟩ := hv
 have sc := Qcw hd
 have sv := Qcw hv
 obtain ⟨m, rfl, hm⟩ := (Qsi v ls cs hc hv hl x.owner).op (by rfl) (Qt (hv.frz _) rfl)
 have hm1 : ∀ s H, _ := fun s H => hm 82 0 s H rfl
 obtain ⟨m, rfl, hm⟩ := (Qsi v ls cs hc hv hl x.prev).op (by rfl) (Qt (hv.frz _) rfl)
 have hm2 : ∀ s H, _ := fun s H => hm 82 0 s H rfl
 obtain ⟨id, kind, owner, prev, txg, guid, key, root, dead⟩ := x
 obtain ⟨ra, rb, rc, rd, re⟩ := root
 simp only at hm1 hm2 hd sc
 cases hO : Qcz ls owner with
 | none =>
   simp only [hO] at hm1
   have hF : ∀ r, Qqk ls ⟨id, kind, owner, prev, txg, guid, key, r, dead⟩ = false := fun r => by simp only [Qqk, Bl, hO]
   rw [hF]
   generalize (match Qcz ls prev with | some i => V.iptr cs (i * 13) | none => V.nP) = pv at hm2
   simp only [Qn, Qf, Qg, Ql, Qa, Qc, nov, gd, rho, Qe, wr, simprocAttr, Qi, ↓Qh, Tryz.ntmps82, ta, new, Qb, hset, Qu, Qs, Qp, splice, zerosN, Qo, Qq, Qk, V.pure, Qr, Ky, sc, hm1, hm2, Qba, Qa7]
   repeat' ((first | refine W.guardF ?_ ?_ | refine W.guardT ?_ ?_ | refine W.guardXF ?_ ?_ | refine W.guardXT ?_ ?_ | refine W.ite ?_ ?_ | refine W.opsK1 (by kernel_rfl) ?_) <;> intro h <;> simp only [Qn, Qf, Qg, Ql, Qa, Qc, nov, gd, rho, Qe, wr, simprocAttr, Qi, ↓Qh, h, ta, new, Qb, hset, Qu, Qs, Qp, splice, zerosN, Qo, Qq, Qk, V.pure, Qr, Qba, Qa7])
   all_goals refine W.done (Zu.ret rfl rfl ?_)
   all_goals first | rfl | (simp only [*, Js, if_true, if_false]; try rfl)
 | some i =>
   have hi := Qjb hO
   obtain ⟨i1, i2, i3, i4⟩ := hc.cells hi
   have hOf : Bl ls owner = some ls[i] := by simp only [Bl, hO, Zjr hi]
   simp only [hO] at hm1
   cases hP : Qcz ls prev with
   | none =>
     have hPf : Bl ls prev = none := by simp only [Bl, hP]
     simp only [hP] at hm2
     simp only [Qn, Qf, Qg, Ql, Qa, Qc, nov, gd, rho, Qe, wr, simprocAttr, Qi, ↓Qh, Tryz.ntmps82, ta, new, Qb, hset, Qu, Qs, Qp, splice, zerosN, Qo, Qq, Qk, V.pure, Qr, Ky, sc, hm1, hm2, Qba, Qa7, i1, i2, i3, i4]
     repeat' ((first | refine W.guardF ?_ ?_ | refine W.guardT ?_ ?_ | refine W.guardXF ?_ ?_ | refine W.guardXT ?_ ?_ | refine W.ite ?_ ?_ | refine W.opsK1 (by kernel_rfl) ?_) <;> intro h <;> simp only [Qn, Qf, Qg, Ql, Qa, Qc, nov, gd, rho, Qe, wr, simprocAttr, Qi, ↓Qh, h, ta, new, Qb, hset, Qu, Qs, Qp, splice, zerosN, Qo, Qq, Qk, V.pure, Qr, Qba, Qa7, i1, i2, i3, i4])
     all_goals refine W.done (Zu.ret rfl rfl ?_)
     all_goals first | rfl | (simp only [Qqk, hOf, hPf, *, Js, if_true, if_false]; try rfl)
   | some j =>
     have hj := Qjb hP
     obtain ⟨j1, j2, j3, j4⟩ := hc.cells hj
     have hPf : Bl ls prev = some ls[j] := by simp only [Bl, hP, Zjr hj]
     simp only [hP] at hm2
     simp only [Qn, Qf, Qg, Ql, Qa, Qc, nov, gd, rho, Qe, wr, simprocAttr, Qi, ↓Qh, Tryz.ntmps82, ta, new, Qb, hset, Qu, Qs, Qp, splice, zerosN, Qo, Qq, Qk, V.pure, Qr, Ky, sc, hm1, hm2, Qba, Qa7, i1, i2, i3, i4, j1, j2, j3, j4]
     repeat' ((first | refine W.guardF ?_ ?_ | refine W.guardT ?_ ?_ | refine W.guardXF ?_ ?_ | refine W.guardXT ?_ ?_ | refine W.ite ?_ ?_ | refine W.opsK1 (by kernel_rfl) ?_) <;> intro h <;> simp only [Qn, Qf, Qg, Ql, Qa, Qc, nov, gd, rho, Qe, wr, simprocAttr, Qi, ↓Qh, h, ta, new, Qb, hset, Qu, Qs, Qp, splice, zerosN, Qo, Qq, Qk, V.pure, Qr, Qba, Qa7, i1, i2, i3, i4, j1, j2, j3, j4])
     all_goals refine W.done (Zu.ret rfl rfl ?_)
     all_goals first | rfl | (simp only [Qqk, hOf, hPf, *, Js, if_true, if_false]; try rfl)
end
section
set_option maxRecDepth 100000
open Go.AM
attribute [local irreducible] U W
theorem Qzf (l : List Kh) (i : Nat) (h : i < l.length) (g : Get) : ldV Tryz.prog 31 g (.iptr (Qc8 l) (i * 5)) = some (.agg l[i].cells) := by
 show Q2 Tryz.prog 31 (Qc8 l) (i * 5) = _
 have := Qqc l
 rw [rd31, if_pos (by omega), Qvt l i h]
set_option maxHeartbeats 4000000 in
theorem Qss (v : V) (l : List Kh) (hv : Qd4 v l) : Fz Tryz.prog Qz 81 [v] fun x => x = .int .i64 (okE (Qme l)) := by
 refine Jt Tryz.func81 rfl ?_
 have len := hv.len Tryz.underlying78
 simp only [Qn, Qf, Qg, Ql, Qa, Qc, nov, gd, rho, Qe, wr, Nat.reduceAdd, Nat.reduceSub, if_true, if_false, reduceIte, reduceCtorEq, Qi, Int.reduceBEq, Int.reduceBNe, Int.reduceLT, Int.reduceLE, ↓Qh, Tryz.ntmps81, ta, new, Qb, hset, Qu, Qs, Qp, Nat.reduceLT, Nat.reduceEqDiff, splice, zerosN, Qo, Qq, Qk, V.pure, Nat.reduceMul, Nat.reduceLeDiff, Qr, len]
 refine W.ite ?_ ?_ <;> intro h <;> simp only [Qn, Qf, Qg, Ql, Qa, Qc, nov, gd, rho, Qe, wr, Nat.reduceAdd, Nat.reduceSub, if_true, if_false, reduceIte, reduceCtorEq, Qi, Int.reduceBEq, Int.reduceBNe, Int.reduceLT, Int.reduceLE, ↓Qh, ta, new, Qb, hset, Qu, Qs, Qp, Nat.reduceLT, Nat.reduceEqDiff, splice, zerosN, Qo, Qq, Qk, V.pure, Nat.reduceMul, Nat.reduceLeDiff, Qr, len]
 . exact W.done (Zu.ret rfl rfl (by simp only [Qme, h]; rfl))
 have hl : l.length <= 240 := by have := of_decide_eq_false h; omega
 have hD : Qme l = Qfu none l := by simp only [Qme, h]; rfl
 rw [hD]
 refine W.ul ?_
 refine W.loop (fun (i : Nat) t H => ∃ F : AM.Frame, Bu [0, 8, 9, 10] t 0 = Qww v v (.int .i64 l.length) (.int .i64 i) /\ i <= l.length /\ H = [F] /\ (F = [] \/ ∃ x, F = [(4, .cells x)]) /\ Qfu (before l i) (l.drop i) = Qfu none l) (fun i => l.length - i) ?_ 0 ⟨_, rfl, by omega, rfl, .inl rfl, rfl⟩ rfl
 rintro i t H ⟨F, ht, hi, rfl, hF, hR⟩
 have hd : ([F] : Heap).modify 0 (J8 fun s => [4].contains s) = [[]] := by
  rcases hF with rfl | ⟨x, rfl⟩ <;> rfl
 have vr : v.refs (fun f s => f == 0 && [4].contains s) = false := hv.noRefs _
 refine ⟨_, _, Ye (kt := [0, 8, 9, 10]) (ds := [4]) rfl ?_ ?_, ?_⟩
 . rw [ht]
   simp only [Qww, Qx, V.refs, vr]; simp
 . rw [hd]
   simp only [Zi, Zo, O.refs, Qx, V.refs]; simp
 rw [ht, hd]
 simp only [Qww]
 by_cases h : i < l.length
 . have c1 : decide ((i : Int) < l.length) = true := Zmo (by omega)
   have at1 := hv.at (k := .i64) Tryz.underlying78 sz31 (by decide) (i := (i : Int)) (by omega) (by omega)
   have ld1 : ∀ g, ldV Tryz.prog 31 g (.iptr (Qc8 l) ((i : Int).toNat * 5)) = _ := fun g => Qzf l i h g
   have w1 : (IntKind.i64).wrap ((i : Int) + 1) = ((i + 1 : Nat) : Int) := by rw [wrap_i64] <;> omega
   obtain ⟨m, rfl, hm⟩ := (Qce l[i]).op (by rfl) rfl
   have hm1 : ∀ s H, _ := fun s H => hm 81 0 s H rfl
   have hq := fun x y => Qry (x := x) (y := y) l[i] Qek
   have hS : Qfu (before l i) (l.drop i) = if decide (l[i] = Qek) || (!(Qgv l[i]) || (match before l i with | some q => decide (Qag q.at_ l[i].at_ >= 0) | none => false)) then false else Qfu (before l (i + 1)) (l.drop (i + 1)) := by
    rw [Zmf h]
    have e : before l (i + 1) = some l[i] := by simp only [before, Zjr h]
    rw [e]; rfl
   rw [hR] at hS
   generalize hp : l[i] = p at *
   obtain ⟨a, b, c, d, e⟩ := p
   simp only [Kh.cells, Qek] at ld1 hm1 hq hS
   generalize hnx : Qfu (before l (i + 1)) (l.drop (i + 1)) = nx at hS
   cases i with
   | zero =>
     have c0 : decide (((0 : Nat) : Int) > 0) = false := rfl
     have hb0 : before l 0 = none := rfl
     simp only [hb0] at hS
     simp only [Qn, Qf, Qg, Ql, Qa, Qc, nov, gd, rho, Qe, wr, Nat.reduceAdd, Nat.reduceSub, if_true, if_false, reduceIte, reduceCtorEq, Qi, Int.reduceBEq, Int.reduceBNe, Int.reduceLT, Int.reduceLE, ↓Qh, c1, at1, ld1, hm1, hq, c0, Kt, ta, new, Qb, hset, Qu, Qs, Qp, Nat.reduceLT, Nat.reduceEqDiff, splice, zerosN, Qo, Qq, Qk, V.pure, Nat.reduceMul, Nat.reduceLeDiff, Qr]
     repeat' ((first | refine W.guardF ?_ ?_ | refine W.guardT ?_ ?_ | refine W.guardXF ?_ ?_ | refine W.guardXT ?_ ?_ | refine W.ite ?_ ?_ | refine W.opsK1 (by kernel_rfl) ?_) <;> intro h <;> simp only [Qn, Qf, Qg, Ql, Qa, Qc, nov, gd, rho, Qe, wr, Nat.reduceAdd, Nat.reduceSub, if_true, if_false, reduceIte, reduceCtorEq, Qi, Int.reduceBEq, Int.reduceBNe, Int.reduceLT, Int.reduceLE, ↓Qh, h, hm1, hq, c0, Kt, ta, new, Qb, hset, Qu, Qs, Qp, Nat.reduceLT, Nat.reduceEqDiff, splice, zerosN, Qo, Qq, Qk, V.pure, Nat.reduceMul, Nat.reduceLeDiff, Qr])
     all_goals first
     | (refine W.done ?_
        simp only [Qn, Qf, Qg, Ql, Qa, Qc, nov, gd, rho, Qe, wr, Nat.reduceAdd, Nat.reduceSub, if_true, if_false, reduceIte, reduceCtorEq, Qi, Int.reduceBEq, Int.reduceBNe, Int.reduceLT, Int.reduceLE, ↓Qh]
        refine W.done (Zu.ret rfl rfl ?_)
        rw [hS]
        simp only [*, Js, if_true, if_false, okE]
        try rfl)
     | (simp only [Qn, Qf, Qg, Ql, Qa, Qc, nov, gd, rho, Qe, wr, Nat.reduceAdd, Nat.reduceSub, if_true, if_false, reduceIte, reduceCtorEq, Qi, Int.reduceBEq, Int.reduceBNe, Int.reduceLT, Int.reduceLE, ↓Qh, w1]
        refine W.done ⟨_, ⟨_, rfl, by omega, rfl, .inr ⟨_, rfl⟩, ?_⟩, by omega⟩
        rw [hS, hnx]
        simp only [*, Js, if_true, if_false]
        try rfl)
   | succ k =>
     have c0 : decide (((k + 1 : Nat) : Int) > 0) = true := Zmo (by omega)
     have wk : (IntKind.i64).wrap (((k + 1 : Nat) : Int) - 1) = ((k : Nat) : Int) := by rw [wrap_i64] <;> omega
     have hk : k < l.length := by omega
     have at2 := hv.at (k := .i64) Tryz.underlying78 sz31 (by decide) (i := (k : Int)) (by omega) (by omega)
     have ld2 : ∀ g, ldV Tryz.prog 31 g (.iptr (Qc8 l) ((k : Int).toNat * 5)) = _ := fun g => Qzf l k hk g
     obtain ⟨m, rfl, hm⟩ := (Qsu l[k] ⟨a, b, c, d, e⟩).op (by rfl) rfl
     have hm2 : ∀ s H, _ := fun s H => hm 81 0 s H rfl
     have hb : before l (k + 1) = some l[k] := by simp only [before, Zjr hk]
     simp only [hb] at hS
     generalize hlk : l[k] = q at *
     obtain ⟨a', b', c', d', e'⟩ := q
     simp only [Kh.cells, Qek] at ld2 hm2
     simp only [Qn, Qf, Qg, Ql, Qa, Qc, nov, gd, rho, Qe, wr, Nat.reduceAdd, Nat.reduceSub, if_true, if_false, reduceIte, reduceCtorEq, Qi, Int.reduceBEq, Int.reduceBNe, Int.reduceLT, Int.reduceLE, ↓Qh, c1, at1, ld1, hm1, hq, c0, Kt, ta, new, Qb, hset, Qu, Qs, Qp, Nat.reduceLT, Nat.reduceEqDiff, splice, zerosN, Qo, Qq, Qk, V.pure, Nat.reduceMul, Nat.reduceLeDiff, Qr]
     repeat' ((first | refine W.guardF ?_ ?_ | refine W.guardT ?_ ?_ | refine W.guardXF ?_ ?_ | refine W.guardXT ?_ ?_ | refine W.ite ?_ ?_ | refine W.opsK1 (by kernel_rfl) ?_) <;> intro h <;> simp only [Qn, Qf, Qg, Ql, Qa, Qc, nov, gd, rho, Qe, wr, Nat.reduceAdd, Nat.reduceSub, if_true, if_false, reduceIte, reduceCtorEq, Qi, Int.reduceBEq, Int.reduceBNe, Int.reduceLT, Int.reduceLE, ↓Qh, h, hm1, hq, c0, Kt, wk, at2, ld2, hm2, ta, new, Qb, hset, Qu, Qs, Qp, Nat.reduceLT, Nat.reduceEqDiff, splice, zerosN, Qo, Qq, Qk, V.pure, Nat.reduceMul, Nat.reduceLeDiff, Qr])
     all_goals first
     | (refine W.done ?_
        simp only [Qn, Qf, Qg, Ql, Qa, Qc, nov, gd, rho, Qe, wr, Nat.reduceAdd, Nat.reduceSub, if_true, if_false, reduceIte, reduceCtorEq, Qi, Int.reduceBEq, Int.reduceBNe, Int.reduceLT, Int.reduceLE, ↓Qh]
        refine W.done (Zu.ret rfl rfl ?_)
        rw [hS]
        simp only [*, Js, if_true, if_false, okE]
        try rfl)
     | (simp only [Qn, Qf, Qg, Ql, Qa, Qc, nov, gd, rho, Qe, wr, Nat.reduceAdd, Nat.reduceSub, if_true, if_false, reduceIte, reduceCtorEq, Qi, Int.reduceBEq, Int.reduceBNe, Int.reduceLT, Int.reduceLE, ↓Qh, w1]
        refine W.done ⟨_, ⟨_, rfl, by omega, rfl, .inr ⟨_, rfl⟩, ?_⟩, by omega⟩
        rw [hS, hnx]
        simp only [*, Js, if_true, if_false]
        try rfl)
 . have c1 : decide ((i : Int) < l.length) = false := Zmp (by omega)
   simp only [Qn, Qf, Qg, Ql, Qa, Qc, nov, gd, rho, Qe, wr, Nat.reduceAdd, Nat.reduceSub, if_true, if_false, reduceIte, reduceCtorEq, Qi, Int.reduceBEq, Int.reduceBNe, Int.reduceLT, Int.reduceLE, ↓Qh, c1]
   refine W.done ?_
   simp only [Qn, Qf, Qg, Ql, Qa, Qc, nov, gd, rho, Qe, wr, Nat.reduceAdd, Nat.reduceSub, if_true, if_false, reduceIte, reduceCtorEq, Qi, Int.reduceBEq, Int.reduceBNe, Int.reduceLT, Int.reduceLE, ↓Qh]
   refine W.done (Zu.ret rfl rfl ?_)
   rw [<- hR, Zlx (by omega)]
   cases hb : before l i <;> rfl
end
section
set_option maxRecDepth 100000
open Go.AM
attribute [local irreducible] U W
set_option maxHeartbeats 8000000 in
theorem Qvr (v : V) (ls : List Jj) (hv : Qgd v ls) : Fz Tryz.prog Qz 21 [v] fun x => x = .bool (Qbw ls) := by
 refine Jt Tryz.func21 rfl ?_
 have hv0 := hv
 obtain ⟨cs, hc, hv⟩ := hv
 have len := hv.len Tryz.underlying33
 have sv := Qcw hv
 simp only [Qn, Qf, Qg, Ql, Qa, Qc, nov, gd, rho, Qe, wr, Nat.reduceAdd, Nat.reduceSub, if_true, if_false, reduceIte, reduceCtorEq, Qi, Int.reduceBEq, Int.reduceBNe, Int.reduceLT, Int.reduceLE, ↓Qh, Tryz.ntmps21, ta, new, Qb, hset, Qu, Qs, Qp, Nat.reduceLT, Nat.reduceEqDiff, splice, zerosN, Qo, Qq, Qk, V.pure, Nat.reduceMul, Nat.reduceLeDiff, Qr, len]
 refine W.ite ?_ ?_ <;> intro h <;> simp only [Qn, Qf, Qg, Ql, Qa, Qc, nov, gd, rho, Qe, wr, Nat.reduceAdd, Nat.reduceSub, if_true, if_false, reduceIte, reduceCtorEq, Qi, Int.reduceBEq, Int.reduceBNe, Int.reduceLT, Int.reduceLE, ↓Qh, ta, new, Qb, hset, Qu, Qs, Qp, Nat.reduceLT, Nat.reduceEqDiff, splice, zerosN, Qo, Qq, Qk, V.pure, Nat.reduceMul, Nat.reduceLeDiff, Qr, len]
 . exact W.done (Zu.ret rfl rfl (by simp only [Qbw, h]; rfl))
 have hl : ls.length <= 16 := by have := of_decide_eq_false h; omega
 have hD : Qbw ls = if Qee none ls then Qdu ls ls else false := by simp only [Qbw, h]; rfl
 rw [hD]
 refine W.ul ?_
 refine W.loop (fun (i : Nat) t H => ∃ F : AM.Frame, Bu [0, 10, 11, 12] t 0 = Qv9 v v (.int .i64 ls.length) (.int .i64 i) /\ i <= ls.length /\ H = [F] /\ (F = [] \/ ∃ x, F = [(4, .cells x)]) /\ Qee (before ls i) (ls.drop i) = Qee none ls) (fun i => ls.length - i) ?_ 0 ⟨_, rfl, by omega, rfl, .inl rfl, rfl⟩ rfl
 rintro i t H ⟨F, ht, hi, rfl, hF, hR⟩
 have hd : ([F] : Heap).modify 0 (J8 fun s => [4].contains s) = [[]] := by
  rcases hF with rfl | ⟨x, rfl⟩ <;> rfl
 have vr : v.refs (fun f s => f == 0 && [4].contains s) = false := hv.noRefs _
 refine ⟨_, _, Ye (kt := [0, 10, 11, 12]) (ds := [4]) rfl ?_ ?_, ?_⟩
 . rw [ht]
   simp only [Qv9, Qx, V.refs, vr]; simp
 . rw [hd]
   simp only [Zi, Zo, O.refs, Qx, V.refs]; simp
 rw [ht, hd]
 simp only [Qv9]
 by_cases h : i < ls.length
 . have c1 : decide ((i : Int) < ls.length) = true := Zmo (by omega)
   have at1 := hv.at (k := .i64) Tryz.underlying33 Qsa (by decide) (i := (i : Int)) (by omega) (by omega)
   obtain ⟨dv, hdv, ld⟩ := hc.ld h
   have sc := Qcw hdv
   have ld1 : ∀ g, ldV Tryz.prog 80 g (.iptr cs ((i : Int).toNat * 13)) = _ := ld
   have w1 : (IntKind.i64).wrap ((i : Int) + 1) = ((i + 1 : Nat) : Int) := by rw [wrap_i64] <;> omega
   have hS : Qee (before ls i) (ls.drop i) = if decide (ls[i].id < 1) || (decide (ls[i].id > 255) || ((match before ls i with | some q => decide (ls[i].id <= q.id) | none => false) || ((ls[i].kind != 1) && (ls[i].kind != 2)))) then false else Qee (before ls (i + 1)) (ls.drop (i + 1)) := by
    rw [Zmf h]
    have e : before ls (i + 1) = some ls[i] := by simp only [before, Zjr h]
    rw [e]; rfl
   rw [hR] at hS
   generalize hp : ls[i] = p at *
   obtain ⟨id, kind, owner, prev, txg, guid, key, root, dead⟩ := p
   obtain ⟨ra, rb, rc, rd, re⟩ := root
   simp only [Ky] at ld1
   simp only at hS
   generalize hnx : Qee (before ls (i + 1)) (ls.drop (i + 1)) = nx at hS
   cases i with
   | zero =>
     have c0 : decide (((0 : Nat) : Int) > 0) = false := rfl
     have hb0 : before ls 0 = none := rfl
     simp only [hb0] at hS
     simp only [Qn, Qf, Qg, Ql, Qa, Qc, nov, gd, rho, Qe, wr, Nat.reduceAdd, Nat.reduceSub, if_true, if_false, reduceIte, reduceCtorEq, Qi, Int.reduceBEq, Int.reduceBNe, Int.reduceLT, Int.reduceLE, ↓Qh, c1, at1, ld1, sc, c0, ta, new, Qb, hset, Qu, Qs, Qp, Nat.reduceLT, Nat.reduceEqDiff, splice, zerosN, Qo, Qq, Qk, V.pure, Nat.reduceMul, Nat.reduceLeDiff, Qr]
     repeat' ((first | refine W.guardF ?_ ?_ | refine W.guardT ?_ ?_ | refine W.guardXF ?_ ?_ | refine W.guardXT ?_ ?_ | refine W.ite ?_ ?_ | refine W.opsK1 (by kernel_rfl) ?_) <;> intro h <;> simp only [Qn, Qf, Qg, Ql, Qa, Qc, nov, gd, rho, Qe, wr, Nat.reduceAdd, Nat.reduceSub, if_true, if_false, reduceIte, reduceCtorEq, Qi, Int.reduceBEq, Int.reduceBNe, Int.reduceLT, Int.reduceLE, ↓Qh, h, c0, ta, new, Qb, hset, Qu, Qs, Qp, Nat.reduceLT, Nat.reduceEqDiff, splice, zerosN, Qo, Qq, Qk, V.pure, Nat.reduceMul, Nat.reduceLeDiff, Qr])
     all_goals first
     | (refine W.done ?_
        simp only [Qn, Qf, Qg, Ql, Qa, Qc, nov, gd, rho, Qe, wr, Nat.reduceAdd, Nat.reduceSub, if_true, if_false, reduceIte, reduceCtorEq, Qi, Int.reduceBEq, Int.reduceBNe, Int.reduceLT, Int.reduceLE, ↓Qh]
        refine W.done (Zu.ret rfl rfl ?_)
        rw [hS]
        simp only [*, Js, if_true, if_false, okE]
        try rfl)
     | (simp only [Qn, Qf, Qg, Ql, Qa, Qc, nov, gd, rho, Qe, wr, Nat.reduceAdd, Nat.reduceSub, if_true, if_false, reduceIte, reduceCtorEq, Qi, Int.reduceBEq, Int.reduceBNe, Int.reduceLT, Int.reduceLE, ↓Qh, w1]
        refine W.done ⟨_, ⟨_, rfl, by omega, rfl, .inr ⟨_, rfl⟩, ?_⟩, by omega⟩
        rw [hS, hnx]
        simp only [*, Js, if_true, if_false]
        try rfl)
   | succ k =>
     have c0 : decide (((k + 1 : Nat) : Int) > 0) = true := Zmo (by omega)
     have wk : (IntKind.i64).wrap (((k + 1 : Nat) : Int) - 1) = ((k : Nat) : Int) := by rw [wrap_i64] <;> omega
     have hk : k < ls.length := by omega
     have at2 := hv.at (k := .i64) Tryz.underlying33 Qsa (by decide) (i := (k : Int)) (by omega) (by omega)
     have hb : before ls (k + 1) = some ls[k] := by simp only [before, Zjr hk]
     obtain ⟨j1, _, _, _⟩ := hc.cells hk
     have j1' : cs[(k : Int).toNat * 13 + 0]? = _ := j1
     simp only [hb] at hS
     simp only [Qn, Qf, Qg, Ql, Qa, Qc, nov, gd, rho, Qe, wr, Nat.reduceAdd, Nat.reduceSub, if_true, if_false, reduceIte, reduceCtorEq, Qi, Int.reduceBEq, Int.reduceBNe, Int.reduceLT, Int.reduceLE, ↓Qh, c1, at1, ld1, sc, c0, ta, new, Qb, hset, Qu, Qs, Qp, Nat.reduceLT, Nat.reduceEqDiff, splice, zerosN, Qo, Qq, Qk, V.pure, Nat.reduceMul, Nat.reduceLeDiff, Qr]
     repeat' ((first | refine W.guardF ?_ ?_ | refine W.guardT ?_ ?_ | refine W.guardXF ?_ ?_ | refine W.guardXT ?_ ?_ | refine W.ite ?_ ?_ | refine W.opsK1 (by kernel_rfl) ?_) <;> intro h <;> simp only [Qn, Qf, Qg, Ql, Qa, Qc, nov, gd, rho, Qe, wr, Nat.reduceAdd, Nat.reduceSub, if_true, if_false, reduceIte, reduceCtorEq, Qi, Int.reduceBEq, Int.reduceBNe, Int.reduceLT, Int.reduceLE, ↓Qh, h, c0, wk, at2, j1', ta, new, Qb, hset, Qu, Qs, Qp, Nat.reduceLT, Nat.reduceEqDiff, splice, zerosN, Qo, Qq, Qk, V.pure, Nat.reduceMul, Nat.reduceLeDiff, Qr])
     all_goals first
     | (refine W.done ?_
        simp only [Qn, Qf, Qg, Ql, Qa, Qc, nov, gd, rho, Qe, wr, Nat.reduceAdd, Nat.reduceSub, if_true, if_false, reduceIte, reduceCtorEq, Qi, Int.reduceBEq, Int.reduceBNe, Int.reduceLT, Int.reduceLE, ↓Qh]
        refine W.done (Zu.ret rfl rfl ?_)
        rw [hS]
        simp only [*, Js, if_true, if_false, okE]
        try rfl)
     | (simp only [Qn, Qf, Qg, Ql, Qa, Qc, nov, gd, rho, Qe, wr, Nat.reduceAdd, Nat.reduceSub, if_true, if_false, reduceIte, reduceCtorEq, Qi, Int.reduceBEq, Int.reduceBNe, Int.reduceLT, Int.reduceLE, ↓Qh, w1]
        refine W.done ⟨_, ⟨_, rfl, by omega, rfl, .inr ⟨_, rfl⟩, ?_⟩, by omega⟩
        rw [hS, hnx]
        simp only [*, Js, if_true, if_false]
        try rfl)
 . have c1 : decide ((i : Int) < ls.length) = false := Zmp (by omega)
   have hA : Qee none ls = true := by
    rw [<- hR, Zlx (by omega)]
    cases hb : before ls i <;> rfl
   rw [hA, if_pos rfl]
   simp only [Qn, Qf, Qg, Ql, Qa, Qc, nov, gd, rho, Qe, wr, Nat.reduceAdd, Nat.reduceSub, if_true, if_false, reduceIte, reduceCtorEq, Qi, Int.reduceBEq, Int.reduceBNe, Int.reduceLT, Int.reduceLE, ↓Qh, c1]
   refine W.done ?_
   simp only [Qn, Qf, Qg, Ql, Qa, Qc, nov, gd, rho, Qe, wr, Nat.reduceAdd, Nat.reduceSub, if_true, if_false, reduceIte, reduceCtorEq, Qi, Int.reduceBEq, Int.reduceBNe, Int.reduceLT, Int.reduceLE, ↓Qh, len, ta, new, Qb, hset, Qu, Qs, Qp, Nat.reduceLT, Nat.reduceEqDiff, splice, zerosN, Qo, Qq, Qk, V.pure, Nat.reduceMul, Nat.reduceLeDiff, Qr]
   refine W.ul ?_
   refine W.loop (fun (i : Nat) t H => ∃ F : AM.Frame, Bu [0, 51, 52, 53] t 0 = Qq0 v v (.int .i64 ls.length) (.int .i64 i) /\ i <= ls.length /\ H = [F] /\ ((F = [] \/ ∃ x, F = [(4, .cells x)]) \/ ∃ x, F = [(6, .cells x)]) /\ Qdu ls (ls.drop i) = Qdu ls ls) (fun i => ls.length - i) ?_ 0 ⟨_, rfl, by omega, rfl, .inl (.inl rfl), rfl⟩ rfl
   rintro i t H ⟨F, ht, hi, rfl, hF, hR⟩
   have hd : ([F] : Heap).modify 0 (J8 fun s => [4, 6].contains s) = [[]] := by
    rcases hF with (rfl | ⟨x, rfl⟩) | ⟨x, rfl⟩ <;> rfl
   have vr : v.refs (fun f s => f == 0 && [4, 6].contains s) = false := hv.noRefs _
   refine ⟨_, _, Ye (kt := [0, 51, 52, 53]) (ds := [4, 6]) rfl ?_ ?_, ?_⟩
   . rw [ht]
     simp only [Qq0, Qx, V.refs, vr]; simp
   . rw [hd]
     simp only [Zi, Zo, O.refs, Qx, V.refs]; simp
   rw [ht, hd]
   simp only [Qq0]
   by_cases h : i < ls.length
   . have c1 : decide ((i : Int) < ls.length) = true := Zmo (by omega)
     have at1 := hv.at (k := .i64) Tryz.underlying33 Qsa (by decide) (i := (i : Int)) (by omega) (by omega)
     obtain ⟨dv, hdv, ld⟩ := hc.ld h
     have sc := Qcw hdv
     have ld1 : ∀ g, ldV Tryz.prog 80 g (.iptr cs ((i : Int).toNat * 13)) = _ := ld
     have w1 : (IntKind.i64).wrap ((i : Int) + 1) = ((i + 1 : Nat) : Int) := by rw [wrap_i64] <;> omega
     have hS : Qdu ls (ls.drop i) = if Qr6 ls ls[i] then false else Qdu ls (ls.drop (i + 1)) := by
      rw [Zmf h]; rfl
     rw [hR] at hS
     obtain ⟨m, rfl, hm⟩ := (Qce ls[i].root).op (by rfl) rfl
     have hm1 : ∀ s H, _ := fun s H => hm 21 0 s H rfl
     obtain ⟨m, rfl, hm⟩ := (Qss dv ls[i].dead hdv).op (by rfl) (Qt (hdv.frz _) rfl)
     have hm2 : ∀ s H, _ := fun s H => hm 21 0 s H rfl
     obtain ⟨m, rfl, hm⟩ := (kin_fz v ls hv0 (by omega) ls[i] dv hdv).op (by rfl) (Qt (hv.frz _) (Qt (Qmm hdv) rfl))
     have hm3 : ∀ s H, _ := fun s H => hm 21 0 s H rfl
     generalize hp : ls[i] = p at *
     obtain ⟨id, kind, owner, prev, txg, guid, key, root, dead⟩ := p
     obtain ⟨ra, rb, rc, rd, re⟩ := root
     simp only [Ky, Kh.cells] at ld1 hm1 hm2 hm3
     simp only [Qr6] at hS
     generalize hnx : Qdu ls (ls.drop (i + 1)) = nx at hS
     simp only [Qn, Qf, Qg, Ql, Qa, Qc, nov, gd, rho, Qe, wr, Nat.reduceAdd, Nat.reduceSub, if_true, if_false, reduceIte, reduceCtorEq, Qi, Int.reduceBEq, Int.reduceBNe, Int.reduceLT, Int.reduceLE, ↓Qh, c1, at1, ld1, sc, hm1, hm2, hm3, Kt, ta, new, Qb, hset, Qu, Qs, Qp, Nat.reduceLT, Nat.reduceEqDiff, splice, zerosN, Qo, Qq, Qk, V.pure, Nat.reduceMul, Nat.reduceLeDiff, Qr]
     repeat' ((first | refine W.guardF ?_ ?_ | refine W.guardT ?_ ?_ | refine W.guardXF ?_ ?_ | refine W.guardXT ?_ ?_ | refine W.ite ?_ ?_ | refine W.opsK1 (by kernel_rfl) ?_) <;> intro h <;> simp only [Qn, Qf, Qg, Ql, Qa, Qc, nov, gd, rho, Qe, wr, Nat.reduceAdd, Nat.reduceSub, if_true, if_false, reduceIte, reduceCtorEq, Qi, Int.reduceBEq, Int.reduceBNe, Int.reduceLT, Int.reduceLE, ↓Qh, h, hm1, hm2, hm3, Kt, sc, ta, new, Qb, hset, Qu, Qs, Qp, Nat.reduceLT, Nat.reduceEqDiff, splice, zerosN, Qo, Qq, Qk, V.pure, Nat.reduceMul, Nat.reduceLeDiff, Qr])
     all_goals first
      | (refine W.done ?_
         simp only [Qn, Qf, Qg, Ql, Qa, Qc, nov, gd, rho, Qe, wr, Nat.reduceAdd, Nat.reduceSub, if_true, if_false, reduceIte, reduceCtorEq, Qi, Int.reduceBEq, Int.reduceBNe, Int.reduceLT, Int.reduceLE, ↓Qh]
         refine W.done (Zu.ret rfl rfl ?_)
         rw [hS]
         simp only [*, Js, if_true, if_false, okE]
         try rfl)
      | (simp only [Qn, Qf, Qg, Ql, Qa, Qc, nov, gd, rho, Qe, wr, Nat.reduceAdd, Nat.reduceSub, if_true, if_false, reduceIte, reduceCtorEq, Qi, Int.reduceBEq, Int.reduceBNe, Int.reduceLT, Int.reduceLE, ↓Qh, w1]
         refine W.done ⟨_, ⟨_, rfl, by omega, rfl, .inr ⟨_, rfl⟩, ?_⟩, by omega⟩
         rw [hS, hnx]
         simp only [*, Js, if_true, if_false]
         try rfl)
   . have c1 : decide ((i : Int) < ls.length) = false := Zmp (by omega)
     have hB : Qdu ls ls = true := by
      rw [<- hR, Zlx (by omega)]; rfl
     rw [hB]
     simp only [Qn, Qf, Qg, Ql, Qa, Qc, nov, gd, rho, Qe, wr, Nat.reduceAdd, Nat.reduceSub, if_true, if_false, reduceIte, reduceCtorEq, Qi, Int.reduceBEq, Int.reduceBNe, Int.reduceLT, Int.reduceLE, ↓Qh, c1]
     refine W.done ?_
     simp only [Qn, Qf, Qg, Ql, Qa, Qc, nov, gd, rho, Qe, wr, Nat.reduceAdd, Nat.reduceSub, if_true, if_false, reduceIte, reduceCtorEq, Qi, Int.reduceBEq, Int.reduceBNe, Int.reduceLT, Int.reduceLE, ↓Qh, len, ta, new, Qb, hset, Qu, Qs, Qp, Nat.reduceLT, Nat.reduceEqDiff, splice, zerosN, Qo, Qq, Qk, V.pure, Nat.reduceMul, Nat.reduceLeDiff, Qr]
     exact W.done (Zu.ret rfl rfl rfl)
end
section
set_option maxRecDepth 100000
open Go.AM
attribute [local irreducible] U W
set_option maxHeartbeats 8000000 in
theorem Qq4 (c : Ji) (dv : V) (hd : Qgn dv c.n) : Fz Tryz.prog Qz 24 [.agg (Jc c dv)] fun x => x = .bool (Qdh c) := by
 refine Jt Tryz.func24 rfl ?_
 obtain ⟨cells, hd⟩ := hd
 have sc := Qcw hd
 have len := Zn.len Tryz.underlying26 hd
 have hq := fun x y => Qry (x := x) (y := y) c.laid Qek
 obtain ⟨m, rfl, hm⟩ := (Qce c.laid).op (by rfl) rfl
 have hm1 : ∀ s H, _ := fun s H => hm 24 0 s H rfl
 obtain ⟨set, obj, index, kind, links, size, n, laid⟩ := c
 simp only [Qdh]
 simp only at hq hm1
 generalize Qgv laid = po at *
 generalize decide (laid = Qek) = pz at *
 obtain ⟨a, b, c, d, e⟩ := laid
 simp only [Kh.cells, Qek] at hm1 hq
 simp only [Qn, Qf, Qg, Ql, Qa, Qc, nov, gd, rho, Qe, wr, simprocAttr, Qi, ↓Qh, Tryz.ntmps24, ta, new, Qb, hset, Qu, Qs, Qp, splice, zerosN, Qo, Qq, Qk, V.pure, Qr, Jc, sc, len, hq, hm1, Kt, Q4b]
 repeat' ((first | refine W.guardF ?_ ?_ | refine W.guardT ?_ ?_ | refine W.guardXF ?_ ?_ | refine W.guardXT ?_ ?_ | refine W.ite ?_ ?_ | refine W.opsK1 (by kernel_rfl) ?_) <;> intro h <;> simp only [Qn, Qf, Qg, Ql, Qa, Qc, nov, gd, rho, Qe, wr, simprocAttr, Qi, ↓Qh, h, hm1, hq, sc, len, Kt, Q4b, ta, new, Qb, hset, Qu, Qs, Qp, splice, zerosN, Qo, Qq, Qk, V.pure, Qr])
 all_goals refine W.done (Zu.ret rfl rfl ?_)
 all_goals first | rfl | (simp only [*, Js, if_true, if_false]; try rfl)
end
section
set_option maxRecDepth 100000
open Go.AM
attribute [local irreducible] U W
theorem Q4x (a b : Ji) (av bv : V) (ha : Qgn av a.n) (hb : Qgn bv b.n) : Fz Tryz.prog Qz 25 [.agg (Jc a av), .agg (Jc b bv)] fun x => x = .int .i64 (Qjs a b) := by
 refine Jt Tryz.func25 rfl ?_
 obtain ⟨ca, ha⟩ := ha
 obtain ⟨cb, hb⟩ := hb
 have sa := Qcw ha
 have sb := Qcw hb
 obtain ⟨m, rfl, hm⟩ := (Xa a.set b.set).op (by rfl) rfl
 have hm1 : ∀ s H, _ := fun s H => hm 25 0 s H rfl
 obtain ⟨m, rfl, hm⟩ := (Xa a.obj b.obj).op (by rfl) rfl
 have hm2 : ∀ s H, _ := fun s H => hm 25 0 s H rfl
 obtain ⟨m, rfl, hm⟩ := (Xa a.index b.index).op (by rfl) rfl
 have hm3 : ∀ s H, _ := fun s H => hm 25 0 s H rfl
 obtain ⟨m, rfl, hm⟩ := (or_fz (.iS [.int .i64 (Qag a.set b.set), .int .i64 (Qag a.obj b.obj), .int .i64 (Qag a.index b.index)] 3 true) [Qag a.set b.set, Qag a.obj b.obj, Qag a.index b.index] (Bk.mk _ _) (by simp)).op (by rfl) rfl
 have hm4 : ∀ s H, _ := fun s H => hm 25 0 s H rfl
 have mt : Qz.mt 25 20 = false := by rfl
 simp only [Qn, Qf, Qg, Ql, Qa, Qc, nov, gd, rho, Qe, wr, simprocAttr, Qi, ↓Qh, Tryz.ntmps25, ta, new, Qb, hset, Qu, Qs, Qp, splice, zerosN, Qo, Qq, Qk, V.pure, Qr, Jc, sa, sb, hm1, hm2, hm3, hm4, Tryz.underlying32, sz3, zc3, Zj9, Zlg, Zky, mt]
 repeat' ((first | refine W.guardF ?_ ?_ | refine W.guardT ?_ ?_ | refine W.guardXF ?_ ?_ | refine W.guardXT ?_ ?_ | refine W.ite ?_ ?_ | refine W.opsK1 (by kernel_rfl) ?_) <;> intro h <;> simp only [Qn, Qf, Qg, Ql, Qa, Qc, nov, gd, rho, Qe, wr, simprocAttr, Qi, ↓Qh, h, mt])
 all_goals refine W.done (Zu.ret rfl rfl ?_)
 all_goals first | rfl | (simp only [Qjs, *, Js, if_true, if_false]; try rfl)
/-! ### Keys -/
theorem byt_u8 : byt Tryz.prog 5 = some 1 := by kernel_rfl
theorem tok_sl (mt : Nat -> Bool) (dst : Option Nat) (x : V) : Qiv Tryz.prog mt dst 26 9 x = none := by
 cases dst <;> simp only [Qiv, Tryz.underlying26, Tryz.underlying9]
theorem Q2r (x y : V) (k l : List UInt8) (hx : Q1 x k) (hy : Q1 y l) : CW Tryz.prog Qz 84 [x, y] [] fun r _ => r = .ret (.bool (decide (k = l))) := by
 refine Xr Tryz.func84 rfl ?_
 have c1 := fun g => Qnv (P := Tryz.prog) (g := g) (s := 26) (d := 9) Tryz.underlying26 Tryz.underlying5 Tryz.underlying9 (Zn.sc (g := g) hx)
 have c2 := fun g => Qnv (P := Tryz.prog) (g := g) (s := 26) (d := 9) Tryz.underlying26 Tryz.underlying5 Tryz.underlying9 (Zn.sc (g := g) hy)
 simp only [Qn, Qf, Qg, Ql, Qa, Qc, nov, gd, rho, Qe, wr, simprocAttr, Qi, ↓Qh, Tryz.ntmps84, ta, new, Qb, hset, Qu, Qs, Qp, splice, zerosN, Qo, Qq, Qk, V.pure, Qr, c1, c2, tok_sl]
 refine W.done (End.ret (v := .bool (decide (k = l))) ?_ rfl)
 have e : (k == l) = decide (k = l) := by rw [Bool.eq_iff_iff]; simp
 rw [<- e]; rfl
theorem Q31 (x : V) (k : List UInt8) (hk : Q1 x k) (hl : k.length <= 1000000) (many : Int) (hm : many = 24 \/ many = 16) :
 CW Tryz.prog Qz 83 [x, .ptr 0 3 0] [[(3, .cells [.int .i64 many])], [], []] fun r H => r = .ret (.bool (Xs many k)) /\ H = [[(3, .cells [.int .i64 many])], [], []] := by
 refine Xr Tryz.func83 rfl ?_
 have len := Zn.len Tryz.underlying26 hk
 rcases hm with rfl | rfl
 . obtain ⟨r, H', e1, e2⟩ := Q2r x (.iS (Qj (List.replicate 24 0)) 24 true) k (List.replicate 24 0) hk (Q1.mk _ _)
   subst e2
   have hc : ∀ d, callOp Qz (Q5 Tryz.prog Qz) 83 3 d 84 [x, .mS 3 18 0 24 (some 24) 1] [[(3, .cells [.int .i64 24])], [], [], [(18, .cells (zerosN [.int .u8 0] 24))]] = some (.ret (.bool (decide (k = List.replicate 24 0))), _) :=
    fun d => Qvc rfl rfl rfl rfl (Qt (Zn.frz hk _) (Qt rfl rfl)) e1 rfl
   have un := Tryz.underlying26
   have rm : Yw 24 1 = true := by rfl
   simp only [Qn, Qf, Qg, Ql, Qa, Qc, nov, gd, rho, Qe, wr, simprocAttr, Qi, ↓Qh, Tryz.ntmps83, ta, new, Qb, hset, Qu, Qs, Qp, splice, zerosN, Qo, Qq, Qk, V.pure, Qr, Zj9, Zlg, len]
   have t24 : Int.toNat 24 = 24 := rfl
   have t24' : (24 : Int) <= 24 := Int.le_refl _
   repeat' ((first | refine W.guardF ?_ ?_ | refine W.guardT ?_ ?_ | refine W.guardXF ?_ ?_ | refine W.guardXT ?_ ?_ | refine W.ite ?_ ?_ | refine W.opsK1 (by kernel_rfl) ?_) <;> intro h <;> simp only [Qn, Qf, Qg, Ql, Qa, Qc, nov, gd, rho, Qe, wr, simprocAttr, Qi, ↓Qh, h, ta, new, Qb, hset, Qu, Qs, Qp, len, un, sz5, zc5, byt_u8, rm, t24, hc, Int.le_refl, true_and, and_true, Zj9, Zlg, Nat.reduceLeDiff, Int.reduceLE])
   all_goals refine W.done (End.ret (v := .bool (Xs 24 k)) ?_ ⟨rfl, rfl⟩)
   all_goals simp only [Xs, *, Zlq, Zmc, Bool.true_or, Bool.or_true, Zls, Bool.or_false]
   all_goals rfl
 . simp only [Qn, Qf, Qg, Ql, Qa, Qc, nov, gd, rho, Qe, wr, simprocAttr, Qi, ↓Qh, Tryz.ntmps83, ta, new, Qb, hset, Qu, Qs, Qp, splice, zerosN, Qo, Qq, Qk, V.pure, Qr, Zj9, Zlg, len]
   have e : ((16 : Int) == 24) = false := rfl
   repeat' ((first | refine W.guardF ?_ ?_ | refine W.guardT ?_ ?_ | refine W.guardXF ?_ ?_ | refine W.guardXT ?_ ?_ | refine W.ite ?_ ?_ | refine W.opsK1 (by kernel_rfl) ?_) <;> intro h <;> simp only [Qn, Qf, Qg, Ql, Qa, Qc, nov, gd, rho, Qe, wr, simprocAttr, Qi, ↓Qh, h, ta, new, Qb, hset, Qu, Qs, Qp, len, e])
   all_goals refine W.done (End.ret (v := .bool (Xs 16 k)) ?_ ⟨rfl, rfl⟩)
   all_goals simp only [Xs, *, Zlq, Zmc, Bool.true_or, Bool.or_true, Zls, Bool.or_false]
   all_goals rfl
end
section
set_option maxRecDepth 100000
open Go.AM
attribute [local irreducible] U W
theorem Qw7 (v : V) (l : List (List UInt8)) (cs : List V) (hc : Qh4 cs l) (hv : Zn 1 v cs l.length) (hl : l.length <= 1000) (hk : ∀ k ∈ l, k.length <= 1000000) (many : Int) (hm : many = 24 \/ many = 16) :
 CW Tryz.prog Qz 164 [v, .func (.func 83) [] [.ptr 0 3 0]] [[(3, .cells [.int .i64 many])], []] fun r H => r = .ret (.int .i64 (J1 (Xs many) 0 l)) /\ H = [[(3, .cells [.int .i64 many])], []] := by
 refine Xr Tryz.func164 rfl ?_
 have len := hv.len Tryz.underlying22
 simp only [Qn, Qf, Qg, Ql, Qa, Qc, nov, gd, rho, Qe, wr, simprocAttr, Qi, ↓Qh, Tryz.ntmps164, ta, new, Qb, hset, Qu, Qs, Qp, splice, zerosN, Qo, Qq, Qk, V.pure, Qr, Zj9, Zlg, len]
 refine W.ul ?_
 refine W.loopS (kt := [0, 1, 7, 8]) rfl (fun i : Nat => Qzc v (.func (.func 83) [] [.ptr 0 3 0]) (.int .i64 l.length) (.int .i64 i)) (fun _ => [[(3, .cells [.int .i64 many])], [], []]) (fun i => i <= l.length /\ J1 (Xs many) i (l.drop i) = J1 (Xs many) 0 l) (fun i => l.length - i) ?_ 0 ⟨by omega, rfl⟩ rfl rfl
 rintro i ⟨hi, hR⟩
 simp only [Qzc]
 by_cases h : i < l.length
 . have c1 : decide ((i : Int) < l.length) = true := Zmo (by omega)
   have at1 := hv.at (k := .i64) Tryz.underlying22 Qje (by decide) (i := (i : Int)) (by omega) (by omega)
   obtain ⟨x, g0, hx⟩ := hc.at_ h
   have g1 : cs[(i : Int).toNat * 1]? = some x := by simpa using g0
   have g1' : cs[(i : Int).toNat]? = some x := by simpa using g0
   have w1 : (IntKind.i64).wrap ((i : Int) + 1) = ((i + 1 : Nat) : Int) := by rw [wrap_i64] <;> omega
   obtain ⟨r, H', e1, e2, rfl⟩ := Q31 x l[i] hx (hk _ (List.getElem_mem h)) many hm
   subst e2
   have hcall : ∀ d, callOp Qz (Q5 Tryz.prog Qz) 164 2 d 83 [x, .ptr 0 3 0] [[(3, .cells [.int .i64 many])], [], []] = _ := fun d => Kq rfl rfl rfl e1
   have hS : J1 (Xs many) i (l.drop i) = if Xs many l[i] then (i : Int) else J1 (Xs many) (i + 1) (l.drop (i + 1)) := by
    rw [Zmf h]; rfl
   rw [hR] at hS
   simp only [Qn, Qf, Qg, Ql, Qa, Qc, nov, gd, rho, Qe, wr, simprocAttr, Qi, ↓Qh, c1, at1, rd26, g1, g1', hcall, ta, new, Qb, hset, Qu, Qs, Qp, splice, zerosN, Qo, Qq, Qk, V.pure, Qr, Zle, Zlh]
   refine W.ite ?_ ?_ <;> intro h2 <;> simp only [Qn, Qf, Qg, Ql, Qa, Qc, nov, gd, rho, Qe, wr, simprocAttr, Qi, ↓Qh, ta, new, Qb, hset, Qu, Qs, Qp, w1]
   . refine W.done ?_
     simp only [Qn, Qf, Qg, Ql, Qa, Qc, nov, gd, rho, Qe, wr, simprocAttr, Qi, ↓Qh]
     refine W.done (End.ret (v := .int .i64 (J1 (Xs many) 0 l)) ?_ ⟨rfl, rfl⟩)
     rw [hS, h2]; rfl
   . refine W.done ⟨i + 1, rfl, rfl, ⟨by omega, ?_⟩, by omega⟩
     rw [hS, h2]; rfl
 . have c1 : decide ((i : Int) < l.length) = false := Zmp (by omega)
   simp only [Qn, Qf, Qg, Ql, Qa, Qc, nov, gd, rho, Qe, wr, simprocAttr, Qi, ↓Qh, c1]
   refine W.done ?_
   simp only [Qn, Qf, Qg, Ql, Qa, Qc, nov, gd, rho, Qe, wr, simprocAttr, Qi, ↓Qh]
   refine W.done (End.ret (v := .int .i64 (J1 (Xs many) 0 l)) ?_ ⟨rfl, rfl⟩)
   rw [<- hR, Zlx (by omega)]; rfl
theorem Qvo (v : V) (l : List (List UInt8)) (cs : List V) (hc : Qh4 cs l) (hv : Zn 1 v cs l.length) (hl : l.length <= 1000) (hk : ∀ k ∈ l, k.length <= 1000000) (many : Int) (hm : many = 24 \/ many = 16) :
 CW Tryz.prog Qz 85 [v, .func (.func 83) [] [.ptr 0 3 0]] [[(3, .cells [.int .i64 many])]] fun r H => r = .ret (.bool (l.any (Xs many))) /\ H = [[(3, .cells [.int .i64 many])]] := by
 refine Xr Tryz.func85 rfl ?_
 obtain ⟨r, H', e1, e2, rfl⟩ := Qw7 v l cs hc hv hl hk many hm
 subst e2
 have hcall : ∀ d, callOp Qz (Q5 Tryz.prog Qz) 85 1 d 164 [v, .func (.func 83) [] [.ptr 0 3 0]] [[(3, .cells [.int .i64 many])], []] = _ := fun d => Kq rfl rfl rfl e1
 simp only [Qn, Qf, Qg, Ql, Qa, Qc, nov, gd, rho, Qe, wr, simprocAttr, Qi, ↓Qh, Tryz.ntmps85, ta, new, Qb, hset, Qu, Qs, Qp, splice, zerosN, Qo, Qq, Qk, V.pure, Qr, Zj9, Zlg, Zle, Zlh, hcall, Qkm]
 exact W.done (End.ret (v := .bool (l.any (Xs many))) rfl ⟨rfl, rfl⟩)
theorem Qmg (v : V) (l : List (List UInt8)) (hv : Qjc v l) (hl : l.length <= 1000) (hk : ∀ k ∈ l, k.length <= 1000000) (many : Int) (hm : many = 24 \/ many = 16) :
 Fz Tryz.prog Qz 22 [v, .int .i64 many] fun x => x = .bool (Qcg l many) := by
 refine Jt Tryz.func22 rfl ?_
 obtain ⟨cs, hc, hv⟩ := hv
 have len := hv.len Tryz.underlying22
 obtain ⟨r, H', e1, e2, rfl⟩ := Qvo v l cs hc hv hl hk many hm
 subst e2
 have hcall : ∀ d, callOp Qz (Q5 Tryz.prog Qz) 22 0 d 85 [v, .func (.func 83) [] [.ptr 0 3 0]] [[(3, .cells [.int .i64 many])]] = _ := fun d => Kq rfl rfl rfl e1
 simp only [Qn, Qf, Qg, Ql, Qa, Qc, nov, gd, rho, Qe, wr, simprocAttr, Qi, ↓Qh, Tryz.ntmps22, ta, new, Qb, hset, Qu, Qs, Qp, splice, zerosN, Qo, Qq, Qk, V.pure, Qr, len, hcall]
 repeat' ((first | refine W.guardF ?_ ?_ | refine W.guardT ?_ ?_ | refine W.guardXF ?_ ?_ | refine W.guardXT ?_ ?_ | refine W.ite ?_ ?_ | refine W.opsK1 (by kernel_rfl) ?_) <;> intro h <;> simp only [Qn, Qf, Qg, Ql, Qa, Qc, nov, gd, rho, Qe, wr, simprocAttr, Qi, ↓Qh, h, ta, new, Qb, hset, Qu, Qs, Qp, len, hcall])
 all_goals refine W.done (Zu.ret rfl rfl ?_)
 all_goals first | rfl | (simp only [Qcg, *, Js, if_true, if_false]; try rfl)
end
section
set_option maxRecDepth 100000
open Go.AM
attribute [local irreducible] U W
theorem Q78 (C : AM.Call) (fn fr : Nat) (d : Option Nat) (H : Heap) (v : V) (l : List UInt8) (hv : Q1 v l) (c : UInt8) :
 callOp Qz C fn fr d 263 [v, .int .u8 c.toNat] H = some (.ret (.int .i64 (l.count c)), H) := by
 have e : Qz.prim 263 = some Ka := rfl
 simp only [callOp, e, Ka, hv.bytesV, Zjs, wr, Lib.countByte]
 simp
theorem max_fz (v : V) (b : UInt8) (l : List UInt8) (hv : Q1 v (b :: l)) (hl : l.length + 1 <= 281474976710656) :
 Fz Tryz.prog Qz 161 [v] fun r => r = .int .u8 (Y9 b.toNat l) := by
 obtain ⟨r, H, e1, rfl⟩ := Q5j v b l hv hl
 exact ⟨_, _, _, e1, rfl, rfl⟩
theorem Q3n (v w : V) (l : List UInt8) (c : UInt8) (hv : Q1 v l) (hw : Q1 w [c]) :
 Fz Tryz.prog Qz 162 [v, w] fun r => r = .int .i64 (l.count c) := by
 refine Jt Tryz.func162 rfl ?_
 have len := hw.len Tryz.underlying26
 have at0 := hw.at (k := .i64) Tryz.underlying26 sz5 (by decide) (i := 0) (by omega) (by simp)
 have get0 : (Qj [c])[(0 : Int).toNat * 1]? = some (.int .u8 c.toNat) := rfl
 have c1 : ((([c] : List UInt8).length : Int) == 0) = false := rfl
 have c2 : ((([c] : List UInt8).length : Int) == 1) = true := rfl
 have ct : ∀ d, callOp Qz (Q5 Tryz.prog Qz) 162 0 d 263 [v, .int .u8 c.toNat] [[]] = some (.ret (.int .i64 (l.count c)), [[]]) := fun d => Q78 _ _ _ _ _ v l hv c
 generalize hn : ([c] : List UInt8).length = n at *
 simp only [Qn, Qf, Qg, Ql, Qa, Qc, nov, gd, rho, Qe, wr, Nat.reduceAdd, Nat.reduceSub, if_true, if_false, reduceIte, reduceCtorEq, Qi, Int.reduceBEq, Int.reduceBNe, Int.reduceLT, Int.reduceLE, ↓Qh, ta, new, Qb, hset, Qu, Qs, Qp, Nat.reduceLT, Nat.reduceEqDiff, Tryz.ntmps162, len, at0, rd5, get0, c1, c2, ct]
 exact W.done (Zu.ret rfl rfl rfl)
theorem Qmi (n : Int) : ∀ (l : List UInt8) (m : Int), Y9 m l <= n ↔ m <= n /\ ∀ b ∈ l, (b.toNat : Int) <= n
 | [], m => by simp [Y9]
 | b :: l, m => by
   have e : Y9 m (b :: l) = Y9 (if (b.toNat : Int) > m then b.toNat else m) l := rfl
   rw [e, Qmi n l]
   split
   . constructor
     . rintro ⟨h1, h2⟩; exact ⟨by omega, by simpa using ⟨h1, h2⟩⟩
     . rintro ⟨h1, h2⟩; simp at h2; exact ⟨h2.1, h2.2⟩
   . constructor
     . rintro ⟨h1, h2⟩; exact ⟨h1, by simp; exact ⟨by omega, h2⟩⟩
     . rintro ⟨h1, h2⟩; simp at h2; exact ⟨h1, h2.2⟩
theorem Qo3 (v : V) (l : List UInt8) (hv : Q1 v l) :
 Fz Tryz.prog Qz 80 [v] fun r => r = .int .i64 (if Qad l then 0 else 8) := by
 refine Jt Tryz.func80 rfl ?_
 have len := hv.len Tryz.underlying26
 simp only [Qn, Qf, Qg, Ql, Qa, Qc, nov, gd, rho, Qe, wr, Nat.reduceAdd, Nat.reduceSub, if_true, if_false, reduceIte, reduceCtorEq, Qi, Int.reduceBEq, Int.reduceBNe, Int.reduceLT, Int.reduceLE, ↓Qh, ta, new, Qb, hset, Qu, Qs, Qp, Nat.reduceLT, Nat.reduceEqDiff, Tryz.ntmps80, len]
 by_cases h1 : l.length = 256
 . have c1 : ((l.length : Int) != 256) = false := by simp [h1]
   match l, h1 with
   | b :: l', h1 =>
   obtain ⟨m, rfl, hm⟩ := (max_fz v b l' hv (by simp at h1; omega)).op (by rfl) (Qt (hv.frz _) rfl)
   have hm' : ∀ d, _ := fun d => hm 80 0 d [[]] rfl
   generalize hL : b :: l' = L at *
   obtain ⟨w, hw, hw'⟩ := hv.cut Tryz.underlying26 sz5 none (some 12) (by simp) (by simp) (by simp; omega)
   simp only [Zla, Zjs] at hw
   have bs : Q1 (.iS [.int .u8 1] 1 true) [1] := Q1.mk [1] true
   obtain ⟨m, rfl, hc⟩ := (Q3n _ _ _ 1 hw' bs).op (by rfl) (Qt (hw'.frz _) (Qt (bs.frz _) rfl))
   have hc' : ∀ d, _ := fun d => hc 80 0 d [[]] rfl
   have e1 : L.take 12 = (List.drop ((none : Option Int).getD 0).toNat L).take (((some 12 : Option Int).getD L.length).toNat - ((none : Option Int).getD 0).toNat) := rfl
   rw [<- e1] at hc'
   have e2 : Y9 b.toNat l' <= 2 ↔ (L.all fun b => b <= 2) = true := by
    rw [Qmi, <- hL]
    simp only [List.all_cons, Zki, decide_eq_true_eq, Zkj, le2]
   have z1 : zeroCells Tryz.prog 5 = some [.int .u8 0] := zc5
   simp only [Qn, Qf, Qg, Ql, Qa, Qc, nov, gd, rho, Qe, wr, Nat.reduceAdd, Nat.reduceSub, if_true, if_false, reduceIte, reduceCtorEq, Qi, Int.reduceBEq, Int.reduceBNe, Int.reduceLT, Int.reduceLE, ↓Qh, ta, new, Qb, hset, Qu, Qs, Qp, Nat.reduceLT, Nat.reduceEqDiff, c1, hm']
   refine W.guard (fun g1 => ?_) (fun g1 => ?_)
   . have g2 : Y9 b.toNat l' <= 2 := by have := of_decide_eq_false g1; omega
     have g3 : Qad L = ((L.take 12).count 1 == 12) := by simp only [Qad, h1, beq_self_eq_true, Zlq, e2.1 g2]
     have mt0 : ∀ s, Qz.mt 80 s = false := fun s => rfl
     simp only [Qn, Qf, Qg, Ql, Qa, Qc, nov, gd, rho, Qe, wr, Nat.reduceAdd, Nat.reduceSub, if_true, if_false, reduceIte, reduceCtorEq, Qi, Int.reduceBEq, Int.reduceBNe, Int.reduceLT, Int.reduceLE, ↓Qh, ta, new, Qb, hset, Qu, Qs, Qp, Nat.reduceLT, Nat.reduceEqDiff, g1, hw, Tryz.underlying26, sz5, z1, mt0, hc', splice, zerosN, Qo, Qq, Qk, V.pure, Nat.reduceMul, Nat.reduceLeDiff, Qr]
     refine W.ite (fun g4 => ?_) (fun g4 => ?_)
     . simp only [Qn, Qf, Qg, Ql, Qa, Qc, nov, gd, rho, Qe, wr, Nat.reduceAdd, Nat.reduceSub, if_true, if_false, reduceIte, reduceCtorEq, Qi, Int.reduceBEq, Int.reduceBNe, Int.reduceLT, Int.reduceLE, ↓Qh, ta, new, Qb, hset, Qu, Qs, Qp, Nat.reduceLT, Nat.reduceEqDiff]
       refine W.done (Zu.ret rfl rfl ?_)
       have g5 := bne_iff_ne.1 g4
       have g6 : (List.count 1 (List.take 12 L) == 12) = false := beq_false_of_ne fun e => g5 (by rw [e]; rfl)
       show V.int .i64 8 = _
       rw [g3, g6]
       rfl
     . simp only [Qn, Qf, Qg, Ql, Qa, Qc, nov, gd, rho, Qe, wr, Nat.reduceAdd, Nat.reduceSub, if_true, if_false, reduceIte, reduceCtorEq, Qi, Int.reduceBEq, Int.reduceBNe, Int.reduceLT, Int.reduceLE, ↓Qh, ta, new, Qb, hset, Qu, Qs, Qp, Nat.reduceLT, Nat.reduceEqDiff]
       refine W.done (Zu.ret rfl rfl ?_)
       have g5 : ((List.count 1 (List.take 12 L) : Nat) : Int) = 12 := by simpa using g4
       have g6 : (List.count 1 (List.take 12 L) == 12) = true := beq_iff_eq.2 (by omega)
       show V.int .i64 0 = _
       rw [g3, g6]
       rfl
   . have g2 : ¬ Y9 b.toNat l' <= 2 := by have := of_decide_eq_true g1; omega
     have g3 : Qad L = false := by
      have : (L.all fun b => b <= 2) = false := Zl7.2 fun h => g2 (e2.2 h)
      simp only [Qad, this, Bool.and_false, Zmc]
     simp only [Qn, Qf, Qg, Ql, Qa, Qc, nov, gd, rho, Qe, wr, Nat.reduceAdd, Nat.reduceSub, if_true, if_false, reduceIte, reduceCtorEq, Qi, Int.reduceBEq, Int.reduceBNe, Int.reduceLT, Int.reduceLE, ↓Qh, ta, new, Qb, hset, Qu, Qs, Qp, Nat.reduceLT, Nat.reduceEqDiff, g1]
     refine W.done (Zu.ret rfl rfl ?_)
     rw [g3]; rfl
 . have c1 : ((l.length : Int) != 256) = true := by simp; omega
   have e : Qad l = false := by simp [Qad, h1]
   simp only [Qn, Qf, Qg, Ql, Qa, Qc, nov, gd, rho, Qe, wr, Nat.reduceAdd, Nat.reduceSub, if_true, if_false, reduceIte, reduceCtorEq, Qi, Int.reduceBEq, Int.reduceBNe, Int.reduceLT, Int.reduceLE, ↓Qh, ta, new, Qb, hset, Qu, Qs, Qp, Nat.reduceLT, Nat.reduceEqDiff, c1]
   exact W.done (Zu.ret rfl rfl (by rw [e]; rfl))
end
end Go.Proofs.YtgnnlchhfiomgaaGreatDoor
