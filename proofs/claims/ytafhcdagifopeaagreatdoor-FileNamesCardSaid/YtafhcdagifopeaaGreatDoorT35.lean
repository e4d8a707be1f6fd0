/- This file holds in one the texts E2, E3, E4, E5, E6, E7; each says at its head what it proves. -/
import Derived.Test.YtafhcdagifopeaaGreatDoorT34
set_option linter.unusedSimpArgs false
set_option linter.unusedVariables false
namespace Go.Proofs.YtafhcdagifopeaaGreatDoor
section
set_option maxRecDepth 100000
open Go.AM
attribute [local irreducible] U W
theorem _root_.Go.AM.LinesC.ld {ls : List Jn} {cs : List V} {i : Nat} (h : LinesC cs ls) (hi : i < ls.length) : ∃ dv, Qdv dv ls[i].dead /\ (∀ g, ldV Tryz.prog 62 g (.iptr cs (i * 13)) = some (.agg (Ku ls[i] dv))) := by
 obtain ⟨dv, h1, h2⟩ := h.at_ (Zis hi)
 refine ⟨dv, h2, fun g => ?_⟩
 show Q2 Tryz.prog 62 cs (i * 13) = _
 have := h.len
 rw [rd62, if_pos (by omega), h1]
/-! ### Searching -/
theorem Qyj (g : Get) (n : Nat) (h : n <= 281474976710656) : convertV Tryz.prog g 3 203 (.int .i64 (n : Int)) = some (.val (.int .u64 (n : Int)) none) := by
 have w : (IntKind.u64).wrap (n : Int) = (n : Int) := by
  simp only [IntKind.wrap, IntKind.bits, IntKind.signed, Zle, Ziw, if_false]; omega
 simp only [convertV, Tryz.underlying3, Tryz.underlying203, w]
theorem Qyh (g : Get) (n : Nat) (h : n <= 281474976710656) : convertV Tryz.prog g 203 3 (.int .u64 (n : Int)) = some (.val (.int .i64 (n : Int)) none) := by
 simp only [convertV, Tryz.underlying3, Tryz.underlying203, wrap_i64 (n := (n : Int)) (by omega) (by omega)]
theorem Qt3 (l : Jn) (dv : V) (hd : Qdv dv l.dead) (id : Int) : Fz Tryz.prog Qz 133 [.agg (Ku l dv), .int .i64 id] fun x => x = .int .i64 (B8 l.id id) := by
 refine Js Tryz.func133 rfl ?_
 have sc := Qcq hd
 obtain ⟨m, rfl, hm⟩ := (Ky l.id id).op (by rfl) rfl
 have hm1 : ∀ s H, _ := fun s H => hm 133 0 s H rfl
 simp only [Qn, Qg, Qf, Ql, Qa, Qc, nov, gd, rho, Qd, wr, Nat.reduceAdd, Nat.reduceSub, if_true, if_false, reduceIte, reduceCtorEq, Qi, Int.reduceBEq, Int.reduceBNe, Int.reduceLT, Int.reduceLE, ↓Qh, Tryz.ntmps133, ta, new, Qb, hset, Qu, Qs, Qp, Nat.reduceLT, Nat.reduceEqDiff, splice, zerosN, Qo, Qr, Qk, V.pure, Nat.reduceMul, Nat.reduceLeDiff, Qq, Ku, sc, hm1]
 exact W.done (Zv.ret rfl rfl rfl)
theorem Q0b (v : V) (ls : List Jn) (hv : Qgd v ls) (hl : ls.length <= 1000000) (id : Int) :
 Fz Tryz.prog Qz 132 [v, .int .i64 id, .func (.func 133) [] []] fun x => x = .tuple [.int .i64 (bs (Bs ls id) ls.length), .bool (Qjo (Bs ls id) ls.length)] := by
 refine Js Tryz.func132 rfl ?_
 obtain ⟨cs, hc, hv⟩ := hv
 have len := hv.len Tryz.underlying33
 have sc := Qcq hv
 simp only [Qn, Qg, Qf, Ql, Qa, Qc, nov, gd, rho, Qd, wr, Nat.reduceAdd, Nat.reduceSub, if_true, if_false, reduceIte, reduceCtorEq, Qi, Int.reduceBEq, Int.reduceBNe, Int.reduceLT, Int.reduceLE, ↓Qh, Tryz.ntmps132, ta, new, Qb, hset, Qu, Qs, Qp, Nat.reduceLT, Nat.reduceEqDiff, splice, zerosN, Qo, Qr, Qk, V.pure, Nat.reduceMul, Nat.reduceLeDiff, Qq, len]
 refine W.ul ?_
 refine W.loopS (kt := [0, 1, 2, 8, 9, 10]) rfl (fun a : Nat × Nat => Qyi v (.int .i64 id) (.func (.func 133) [] []) (.int .i64 ls.length) (.int .i64 a.1) (.int .i64 a.2)) (fun _ => [[]])
  (fun a => a.1 <= a.2 /\ a.2 <= ls.length /\ Qgh (Bs ls id) (a.2 - a.1) a.1 a.2 = bs (Bs ls id) ls.length) (fun a => a.2 - a.1) ?_ (0, ls.length) ⟨by simp, by simp, rfl⟩ rfl rfl
 rintro ⟨i, j⟩ ⟨hij, hj, hR⟩
 simp only at hij hj hR
 simp only [Qyi]
 by_cases h : i < j
 . have c1 : decide ((i : Int) < j) = true := Zlq (by omega)
   have wa : (IntKind.i64).wrap ((i : Int) + j) = ((i + j : Nat) : Int) := by rw [wrap_i64] <;> omega
   have hm : (i + j) / 2 < ls.length := by omega
   have at1 := hv.at (k := .i64) Tryz.underlying33 Qri (by decide) (i := (((i + j) / 2 : Nat) : Int)) (by omega) (by omega)
   obtain ⟨dv, hd, ld⟩ := hc.ld hm
   have ld' : ∀ g, ldV Tryz.prog 62 g (.iptr cs ((((i + j) / 2 : Nat) : Int).toNat * 13)) = _ := ld
   have cv1 := fun g => Qyj g (i + j) (by omega)
   have cv2 := fun g => Qyh g ((i + j) / 2) (by omega)
   have sh : ∀ p q, Zz Tryz.prog .shr 203 p q (.int .u64 ((i + j : Nat) : Int)) (.int .u64 1) = _ := fun p q => Q4h (i + j)
   obtain ⟨m, rfl, hm2⟩ := (Qt3 ls[(i + j) / 2] dv hd id).op (by rfl) (Qt (Qmq hd) rfl)
   have hm3 : ∀ s H, _ := fun s H => hm2 132 0 s H rfl
   have eL : Bs ls id ((i + j) / 2) = B8 ls[(i + j) / 2].id id := by simp only [Bs, Zis hm]
   have w1 : (IntKind.i64).wrap ((((i + j) / 2 : Nat) : Int) + 1) = (((i + j) / 2 + 1 : Nat) : Int) := by rw [wrap_i64] <;> omega
   rw [<- eL] at hm3
   simp only [Qn, Qg, Qf, Ql, Qa, Qc, nov, gd, rho, Qd, wr, Nat.reduceAdd, Nat.reduceSub, if_true, if_false, reduceIte, reduceCtorEq, Qi, Int.reduceBEq, Int.reduceBNe, Int.reduceLT, Int.reduceLE, ↓Qh, c1, wa, at1, ld', cv1, cv2, sh, hm3, ta, new, Qb, hset, Qu, Qs, Qp, Nat.reduceLT, Nat.reduceEqDiff, splice, zerosN, Qo, Qr, Qk, V.pure, Nat.reduceMul, Nat.reduceLeDiff, Qq]
   refine W.ite ?_ ?_ <;> intro h2 <;> simp only [Qn, Qg, Qf, Ql, Qa, Qc, nov, gd, rho, Qd, wr, Nat.reduceAdd, Nat.reduceSub, if_true, if_false, reduceIte, reduceCtorEq, Qi, Int.reduceBEq, Int.reduceBNe, Int.reduceLT, Int.reduceLE, ↓Qh, ta, new, Qb, hset, Qu, Qs, Qp, Nat.reduceLT, Nat.reduceEqDiff, splice, zerosN, Qo, Qr, Qk, V.pure, Nat.reduceMul, Nat.reduceLeDiff, Qq, w1]
   . exact W.done ⟨((i + j) / 2 + 1, j), rfl, rfl, ⟨by simp only; omega, hj, by rw [<- hR, Q4l h h2]⟩, by simp only; omega⟩
   . exact W.done ⟨(i, (i + j) / 2), rfl, rfl, ⟨by simp only; omega, by simp only; omega, by rw [<- hR, Q3g h h2]⟩, by simp only; omega⟩
 . have c1 : decide ((i : Int) < j) = false := Zlr (by omega)
   have e : i = j := by omega
   subst e
   have hi : i = bs (Bs ls id) ls.length := by
    rw [<- hR, Nat.sub_self]; rfl
   have key : Qjo (Bs ls id) ls.length = (decide (i < ls.length) && decide (Bs ls id i = 0)) := by rw [Qjo, <- hi]
   rw [key, <- hi]
   simp only [Qn, Qg, Qf, Ql, Qa, Qc, nov, gd, rho, Qd, wr, Nat.reduceAdd, Nat.reduceSub, if_true, if_false, reduceIte, reduceCtorEq, Qi, Int.reduceBEq, Int.reduceBNe, Int.reduceLT, Int.reduceLE, ↓Qh, c1]
   refine W.done ?_
   by_cases h2 : i < ls.length
   . have c2 : decide ((i : Int) < ls.length) = true := Zlq (by omega)
     have at1 := hv.at (k := .i64) Tryz.underlying33 Qri (by decide) (i := (i : Int)) (by omega) (by omega)
     obtain ⟨dv, hd, ld⟩ := hc.ld h2
     have ld' : ∀ g, ldV Tryz.prog 62 g (.iptr cs ((i : Int).toNat * 13)) = _ := ld
     obtain ⟨m, rfl, hm2⟩ := (Qt3 ls[i] dv hd id).op (by rfl) (Qt (Qmq hd) rfl)
     have hm3 : ∀ s H, _ := fun s H => hm2 132 0 s H rfl
     have eL : Bs ls id i = B8 ls[i].id id := by simp only [Bs, Zis h2]
     rw [<- eL] at hm3
     have e0 : (Bs ls id i == 0) = decide (Bs ls id i = 0) := rfl
     simp only [Qn, Qg, Qf, Ql, Qa, Qc, nov, gd, rho, Qd, wr, Nat.reduceAdd, Nat.reduceSub, if_true, if_false, reduceIte, reduceCtorEq, Qi, Int.reduceBEq, Int.reduceBNe, Int.reduceLT, Int.reduceLE, ↓Qh, c2, at1, ld', hm3, e0, ta, new, Qb, hset, Qu, Qs, Qp, Nat.reduceLT, Nat.reduceEqDiff, splice, zerosN, Qo, Qr, Qk, V.pure, Nat.reduceMul, Nat.reduceLeDiff, Qq]
     rw [Zlq h2, Zks]
     exact W.done (Zv.ret rfl rfl rfl)
   . have c2 : decide ((i : Int) < ls.length) = false := Zlr (by omega)
     simp only [Qn, Qg, Qf, Ql, Qa, Qc, nov, gd, rho, Qd, wr, Nat.reduceAdd, Nat.reduceSub, if_true, if_false, reduceIte, reduceCtorEq, Qi, Int.reduceBEq, Int.reduceBNe, Int.reduceLT, Int.reduceLE, ↓Qh, c2, ta, new, Qb, hset, Qu, Qs, Qp, Nat.reduceLT, Nat.reduceEqDiff, splice, zerosN, Qo, Qr, Qk, V.pure, Nat.reduceMul, Nat.reduceLeDiff, Qq]
     rw [Zlr h2, Zle]
     exact W.done (Zv.ret rfl rfl rfl)
theorem Qsb (v : V) (ls : List Jn) (cs : List V) (hc : LinesC cs ls) (hv : Zo 13 v cs ls.length) (hl : ls.length <= 1000000) (id : Int) :
 Fz Tryz.prog Qz 82 [v, .int .i64 id] fun x => x = (match Qco ls id with | some i => .iptr cs (i * 13) | none => .nP) := by
 refine Js Tryz.func82 rfl ?_
 obtain ⟨m, rfl, hm⟩ := (Q0b v ls ⟨cs, hc, hv⟩ hl id).op (by rfl) (Qt (hv.frz _) rfl)
 have hm1 : ∀ s H, _ := fun s H => hm 82 0 s H rfl
 simp only [Qn, Qg, Qf, Ql, Qa, Qc, nov, gd, rho, Qd, wr, Nat.reduceAdd, Nat.reduceSub, if_true, if_false, reduceIte, reduceCtorEq, Qi, Int.reduceBEq, Int.reduceBNe, Int.reduceLT, Int.reduceLE, ↓Qh, Tryz.ntmps82, ta, new, Qb, hset, Qu, Qs, Qp, Nat.reduceLT, Nat.reduceEqDiff, splice, zerosN, Qo, Qr, Qk, V.pure, Nat.reduceMul, Nat.reduceLeDiff, Qq, hm1]
 refine W.ite ?_ ?_ <;> intro h <;> simp only [Qn, Qg, Qf, Ql, Qa, Qc, nov, gd, rho, Qd, wr, Nat.reduceAdd, Nat.reduceSub, if_true, if_false, reduceIte, reduceCtorEq, Qi, Int.reduceBEq, Int.reduceBNe, Int.reduceLT, Int.reduceLE, ↓Qh, ta, new, Qb, hset, Qu, Qs, Qp, Nat.reduceLT, Nat.reduceEqDiff, splice, zerosN, Qo, Qr, Qk, V.pure, Nat.reduceMul, Nat.reduceLeDiff, Qq]
 . have h' : Qjo (Bs ls id) ls.length = false := by simpa using h
   exact W.done (Zv.ret rfl rfl (by simp only [Qco, h']; rfl))
 . have h' : Qjo (Bs ls id) ls.length = true := by simpa using h
   have hlt : bs (Bs ls id) ls.length < ls.length := by
    simp only [Qjo, Zjj] at h'; exact of_decide_eq_true h'.1
   have at1 := hv.at (k := .i64) Tryz.underlying33 Qri (by decide) (i := ((bs (Bs ls id) ls.length : Nat) : Int)) (by omega) (by omega)
   simp only [Qn, Qg, Qf, Ql, Qa, Qc, nov, gd, rho, Qd, wr, Nat.reduceAdd, Nat.reduceSub, if_true, if_false, reduceIte, reduceCtorEq, Qi, Int.reduceBEq, Int.reduceBNe, Int.reduceLT, Int.reduceLE, ↓Qh, ta, new, Qb, hset, Qu, Qs, Qp, Nat.reduceLT, Nat.reduceEqDiff, splice, zerosN, Qo, Qr, Qk, V.pure, Nat.reduceMul, Nat.reduceLeDiff, Qq, at1]
   refine W.done (Zv.ret rfl rfl ?_)
   simp only [Qco, h', if_true]; rfl
end
section
set_option maxRecDepth 100000
open Go.AM
attribute [local irreducible] U W
theorem Qaz (x y : Operand) : Zz Tryz.prog .eql 142 x y .nP .nP = some (.bool true) := by
 have hg : (Tryz.prog).eqGuardType (Tryz.prog).depth 142 = false := by kernel_rfl
 simp only [Zz, Qju, Tryz.underlying142, hg, eqV, Ziw, if_false]
 rfl
theorem Qa1 (x y : Operand) (cs : List V) (o : Nat) : Zz Tryz.prog .eql 142 x y (.iptr cs o) .nP = some (.bool false) := by
 have hg : (Tryz.prog).eqGuardType (Tryz.prog).depth 142 = false := by kernel_rfl
 simp only [Zz, Qju, Tryz.underlying142, hg, eqV, Ziw, if_false]
 rfl
theorem kin_fz (v : V) (ls : List Jn) (hv : Qgd v ls) (hl : ls.length <= 1000000) (x : Jn) (dv : V) (hd : Qdv dv x.dead) :
 Fz Tryz.prog Qz 129 [v, .agg (Ku x dv)] fun y => y = .bool (Qqf ls x) := by
 refine Js Tryz.func129 rfl ?_
 obtain ⟨cs, hc, hv⟩ := hv
 have sc := Qcq hd
 have sv := Qcq hv
 obtain ⟨m, rfl, hm⟩ := (Qsb v ls cs hc hv hl x.owner).op (by rfl) (Qt (hv.frz _) rfl)
 have hm1 : ∀ s H, _ := fun s H => hm 129 0 s H rfl
 obtain ⟨m, rfl, hm⟩ := (Qsb v ls cs hc hv hl x.prev).op (by rfl) (Qt (hv.frz _) rfl)
 have hm2 : ∀ s H, _ := fun s H => hm 129 0 s H rfl
 obtain ⟨id, kind, owner, prev, txg, guid, key, root, dead⟩ := x
 obtain ⟨ra, rb, rc, rd, re⟩ := root
 simp only at hm1 hm2 hd sc
 cases hO : Qco ls owner with
 | none =>
   simp only [hO] at hm1
   have hF : ∀ r, Qqf ls ⟨id, kind, owner, prev, txg, guid, key, r, dead⟩ = false := fun r => by simp only [Qqf, Bf, hO]
   rw [hF]
   generalize (match Qco ls prev with | some i => V.iptr cs (i * 13) | none => V.nP) = pv at hm2
   simp only [Qn, Qg, Qf, Ql, Qa, Qc, nov, gd, rho, Qd, wr, Nat.reduceAdd, Nat.reduceSub, if_true, if_false, reduceIte, reduceCtorEq, Qi, Int.reduceBEq, Int.reduceBNe, Int.reduceLT, Int.reduceLE, ↓Qh, Tryz.ntmps129, ta, new, Qb, hset, Qu, Qs, Qp, Nat.reduceLT, Nat.reduceEqDiff, splice, zerosN, Qo, Qr, Qk, V.pure, Nat.reduceMul, Nat.reduceLeDiff, Qq, Ku, sc, hm1, hm2, Qaz, Qa1]
   repeat' ((first | refine W.guardF ?_ ?_ | refine W.guardT ?_ ?_ | refine W.guardXF ?_ ?_ | refine W.guardXT ?_ ?_ | refine W.ite ?_ ?_ | refine W.opsK1 (by kernel_rfl) ?_) <;> intro h <;> simp only [Qn, Qg, Qf, Ql, Qa, Qc, nov, gd, rho, Qd, wr, Nat.reduceAdd, Nat.reduceSub, if_true, if_false, reduceIte, reduceCtorEq, Qi, Int.reduceBEq, Int.reduceBNe, Int.reduceLT, Int.reduceLE, ↓Qh, h, ta, new, Qb, hset, Qu, Qs, Qp, Nat.reduceLT, Nat.reduceEqDiff, splice, zerosN, Qo, Qr, Qk, V.pure, Nat.reduceMul, Nat.reduceLeDiff, Qq, Qaz, Qa1])
   all_goals refine W.done (Zv.ret rfl rfl ?_)
   all_goals first | rfl | (simp only [*, Jt, if_true, if_false]; try rfl)
 | some i =>
   have hi := Qjb hO
   obtain ⟨i1, i2, i3, i4⟩ := hc.cells hi
   have hOf : Bf ls owner = some ls[i] := by simp only [Bf, hO, Zis hi]
   simp only [hO] at hm1
   cases hP : Qco ls prev with
   | none =>
     have hPf : Bf ls prev = none := by simp only [Bf, hP]
     simp only [hP] at hm2
     simp only [Qn, Qg, Qf, Ql, Qa, Qc, nov, gd, rho, Qd, wr, Nat.reduceAdd, Nat.reduceSub, if_true, if_false, reduceIte, reduceCtorEq, Qi, Int.reduceBEq, Int.reduceBNe, Int.reduceLT, Int.reduceLE, ↓Qh, Tryz.ntmps129, ta, new, Qb, hset, Qu, Qs, Qp, Nat.reduceLT, Nat.reduceEqDiff, splice, zerosN, Qo, Qr, Qk, V.pure, Nat.reduceMul, Nat.reduceLeDiff, Qq, Ku, sc, hm1, hm2, Qaz, Qa1, i1, i2, i3, i4]
     repeat' ((first | refine W.guardF ?_ ?_ | refine W.guardT ?_ ?_ | refine W.guardXF ?_ ?_ | refine W.guardXT ?_ ?_ | refine W.ite ?_ ?_ | refine W.opsK1 (by kernel_rfl) ?_) <;> intro h <;> simp only [Qn, Qg, Qf, Ql, Qa, Qc, nov, gd, rho, Qd, wr, Nat.reduceAdd, Nat.reduceSub, if_true, if_false, reduceIte, reduceCtorEq, Qi, Int.reduceBEq, Int.reduceBNe, Int.reduceLT, Int.reduceLE, ↓Qh, h, ta, new, Qb, hset, Qu, Qs, Qp, Nat.reduceLT, Nat.reduceEqDiff, splice, zerosN, Qo, Qr, Qk, V.pure, Nat.reduceMul, Nat.reduceLeDiff, Qq, Qaz, Qa1, i1, i2, i3, i4])
     all_goals refine W.done (Zv.ret rfl rfl ?_)
     all_goals first | rfl | (simp only [Qqf, hOf, hPf, *, Jt, if_true, if_false]; try rfl)
   | some j =>
     have hj := Qjb hP
     obtain ⟨j1, j2, j3, j4⟩ := hc.cells hj
     have hPf : Bf ls prev = some ls[j] := by simp only [Bf, hP, Zis hj]
     simp only [hP] at hm2
     simp only [Qn, Qg, Qf, Ql, Qa, Qc, nov, gd, rho, Qd, wr, Nat.reduceAdd, Nat.reduceSub, if_true, if_false, reduceIte, reduceCtorEq, Qi, Int.reduceBEq, Int.reduceBNe, Int.reduceLT, Int.reduceLE, ↓Qh, Tryz.ntmps129, ta, new, Qb, hset, Qu, Qs, Qp, Nat.reduceLT, Nat.reduceEqDiff, splice, zerosN, Qo, Qr, Qk, V.pure, Nat.reduceMul, Nat.reduceLeDiff, Qq, Ku, sc, hm1, hm2, Qaz, Qa1, i1, i2, i3, i4, j1, j2, j3, j4]
     repeat' ((first | refine W.guardF ?_ ?_ | refine W.guardT ?_ ?_ | refine W.guardXF ?_ ?_ | refine W.guardXT ?_ ?_ | refine W.ite ?_ ?_ | refine W.opsK1 (by kernel_rfl) ?_) <;> intro h <;> simp only [Qn, Qg, Qf, Ql, Qa, Qc, nov, gd, rho, Qd, wr, Nat.reduceAdd, Nat.reduceSub, if_true, if_false, reduceIte, reduceCtorEq, Qi, Int.reduceBEq, Int.reduceBNe, Int.reduceLT, Int.reduceLE, ↓Qh, h, ta, new, Qb, hset, Qu, Qs, Qp, Nat.reduceLT, Nat.reduceEqDiff, splice, zerosN, Qo, Qr, Qk, V.pure, Nat.reduceMul, Nat.reduceLeDiff, Qq, Qaz, Qa1, i1, i2, i3, i4, j1, j2, j3, j4])
     all_goals refine W.done (Zv.ret rfl rfl ?_)
     all_goals first | rfl | (simp only [Qqf, hOf, hPf, *, Jt, if_true, if_false]; try rfl)
end
section
set_option maxRecDepth 100000
open Go.AM
attribute [local irreducible] U W
theorem Qzl (l : List Ke) (i : Nat) (h : i < l.length) (g : Get) : ldV Tryz.prog 31 g (.iptr (Qdb l) (i * 5)) = some (.agg l[i].cells) := by
 show Q2 Tryz.prog 31 (Qdb l) (i * 5) = _
 have := Qpf l
 rw [rd31, if_pos (by omega), Qt7 l i h]
set_option maxHeartbeats 4000000 in
theorem Qs1 (v : V) (l : List Ke) (hv : Qdv v l) : Fz Tryz.prog Qz 128 [v] fun x => x = .int .i64 (okE (Ql7 l)) := by
 refine Js Tryz.func128 rfl ?_
 have len := hv.len Tryz.underlying60
 simp only [Qn, Qg, Qf, Ql, Qa, Qc, nov, gd, rho, Qd, wr, Nat.reduceAdd, Nat.reduceSub, if_true, if_false, reduceIte, reduceCtorEq, Qi, Int.reduceBEq, Int.reduceBNe, Int.reduceLT, Int.reduceLE, ↓Qh, Tryz.ntmps128, ta, new, Qb, hset, Qu, Qs, Qp, Nat.reduceLT, Nat.reduceEqDiff, splice, zerosN, Qo, Qr, Qk, V.pure, Nat.reduceMul, Nat.reduceLeDiff, Qq, len]
 refine W.ite ?_ ?_ <;> intro h <;> simp only [Qn, Qg, Qf, Ql, Qa, Qc, nov, gd, rho, Qd, wr, Nat.reduceAdd, Nat.reduceSub, if_true, if_false, reduceIte, reduceCtorEq, Qi, Int.reduceBEq, Int.reduceBNe, Int.reduceLT, Int.reduceLE, ↓Qh, ta, new, Qb, hset, Qu, Qs, Qp, Nat.reduceLT, Nat.reduceEqDiff, splice, zerosN, Qo, Qr, Qk, V.pure, Nat.reduceMul, Nat.reduceLeDiff, Qq, len]
 . exact W.done (Zv.ret rfl rfl (by simp only [Ql7, h]; rfl))
 have hl : l.length <= 240 := by have := of_decide_eq_false h; omega
 have hD : Ql7 l = Qfx none l := by simp only [Ql7, h]; rfl
 rw [hD]
 refine W.ul ?_
 refine W.loop (fun (i : Nat) t H => ∃ F : AM.Frame, Bl [0, 8, 9, 10] t 0 = Qs3 v v (.int .i64 l.length) (.int .i64 i) /\ i <= l.length /\ H = [F] /\ (F = [] \/ ∃ x, F = [(4, .cells x)]) /\ Qfx (before l i) (l.drop i) = Qfx none l) (fun i => l.length - i) ?_ 0 ⟨_, rfl, by omega, rfl, .inl rfl, rfl⟩ rfl
 rintro i t H ⟨F, ht, hi, rfl, hF, hR⟩
 have hd : ([F] : Heap).modify 0 (J7 fun s => [4].contains s) = [[]] := by
  rcases hF with rfl | ⟨x, rfl⟩ <;> rfl
 have vr : v.refs (fun f s => f == 0 && [4].contains s) = false := hv.noRefs _
 refine ⟨_, _, Ye (kt := [0, 8, 9, 10]) (ds := [4]) rfl ?_ ?_, ?_⟩
 . rw [ht]
   simp only [Qs3, Qx, V.refs, vr]; simp
 . rw [hd]
   simp only [Zi, Zn, O.refs, Qx, V.refs]; simp
 rw [ht, hd]
 simp only [Qs3]
 by_cases h : i < l.length
 . have c1 : decide ((i : Int) < l.length) = true := Zlq (by omega)
   have at1 := hv.at (k := .i64) Tryz.underlying60 sz31 (by decide) (i := (i : Int)) (by omega) (by omega)
   have ld1 : ∀ g, ldV Tryz.prog 31 g (.iptr (Qdb l) ((i : Int).toNat * 5)) = _ := fun g => Qzl l i h g
   have w1 : (IntKind.i64).wrap ((i : Int) + 1) = ((i + 1 : Nat) : Int) := by rw [wrap_i64] <;> omega
   obtain ⟨m, rfl, hm⟩ := (Qb7 l[i]).op (by rfl) rfl
   have hm1 : ∀ s H, _ := fun s H => hm 128 0 s H rfl
   have hq := fun x y => Qrd (x := x) (y := y) l[i] Qdp
   have hS : Qfx (before l i) (l.drop i) = if decide (l[i] = Qdp) || (!(Qgp l[i]) || (match before l i with | some q => decide (B8 q.at_ l[i].at_ >= 0) | none => false)) then false else Qfx (before l (i + 1)) (l.drop (i + 1)) := by
    rw [Zlh h]
    have e : before l (i + 1) = some l[i] := by simp only [before, Zis h]
    rw [e]; rfl
   rw [hR] at hS
   generalize hp : l[i] = p at *
   obtain ⟨a, b, c, d, e⟩ := p
   simp only [Ke.cells, Qdp] at ld1 hm1 hq hS
   generalize hnx : Qfx (before l (i + 1)) (l.drop (i + 1)) = nx at hS
   cases i with
   | zero =>
     have c0 : decide (((0 : Nat) : Int) > 0) = false := rfl
     have hb0 : before l 0 = none := rfl
     simp only [hb0] at hS
     simp only [Qn, Qg, Qf, Ql, Qa, Qc, nov, gd, rho, Qd, wr, Nat.reduceAdd, Nat.reduceSub, if_true, if_false, reduceIte, reduceCtorEq, Qi, Int.reduceBEq, Int.reduceBNe, Int.reduceLT, Int.reduceLE, ↓Qh, c1, at1, ld1, hm1, hq, c0, Kt, ta, new, Qb, hset, Qu, Qs, Qp, Nat.reduceLT, Nat.reduceEqDiff, splice, zerosN, Qo, Qr, Qk, V.pure, Nat.reduceMul, Nat.reduceLeDiff, Qq]
     repeat' ((first | refine W.guardF ?_ ?_ | refine W.guardT ?_ ?_ | refine W.guardXF ?_ ?_ | refine W.guardXT ?_ ?_ | refine W.ite ?_ ?_ | refine W.opsK1 (by kernel_rfl) ?_) <;> intro h <;> simp only [Qn, Qg, Qf, Ql, Qa, Qc, nov, gd, rho, Qd, wr, Nat.reduceAdd, Nat.reduceSub, if_true, if_false, reduceIte, reduceCtorEq, Qi, Int.reduceBEq, Int.reduceBNe, Int.reduceLT, Int.reduceLE, ↓Qh, h, hm1, hq, c0, Kt, ta, new, Qb, hset, Qu, Qs, Qp, Nat.reduceLT, Nat.reduceEqDiff, splice, zerosN, Qo, Qr, Qk, V.pure, Nat.reduceMul, Nat.reduceLeDiff, Qq])
     all_goals first
     | (refine W.done ?_
        simp only [Qn, Qg, Qf, Ql, Qa, Qc, nov, gd, rho, Qd, wr, Nat.reduceAdd, Nat.reduceSub, if_true, if_false, reduceIte, reduceCtorEq, Qi, Int.reduceBEq, Int.reduceBNe, Int.reduceLT, Int.reduceLE, ↓Qh]
        refine W.done (Zv.ret rfl rfl ?_)
        rw [hS]
        simp only [*, Jt, if_true, if_false, okE]
        try rfl)
     | (simp only [Qn, Qg, Qf, Ql, Qa, Qc, nov, gd, rho, Qd, wr, Nat.reduceAdd, Nat.reduceSub, if_true, if_false, reduceIte, reduceCtorEq, Qi, Int.reduceBEq, Int.reduceBNe, Int.reduceLT, Int.reduceLE, ↓Qh, w1]
        refine W.done ⟨_, ⟨_, rfl, by omega, rfl, .inr ⟨_, rfl⟩, ?_⟩, by omega⟩
        rw [hS, hnx]
        simp only [*, Jt, if_true, if_false]
        try rfl)
   | succ k =>
     have c0 : decide (((k + 1 : Nat) : Int) > 0) = true := Zlq (by omega)
     have wk : (IntKind.i64).wrap (((k + 1 : Nat) : Int) - 1) = ((k : Nat) : Int) := by rw [wrap_i64] <;> omega
     have hk : k < l.length := by omega
     have at2 := hv.at (k := .i64) Tryz.underlying60 sz31 (by decide) (i := (k : Int)) (by omega) (by omega)
     have ld2 : ∀ g, ldV Tryz.prog 31 g (.iptr (Qdb l) ((k : Int).toNat * 5)) = _ := fun g => Qzl l k hk g
     obtain ⟨m, rfl, hm⟩ := (Qq1 l[k] ⟨a, b, c, d, e⟩).op (by rfl) rfl
     have hm2 : ∀ s H, _ := fun s H => hm 128 0 s H rfl
     have hb : before l (k + 1) = some l[k] := by simp only [before, Zis hk]
     simp only [hb] at hS
     generalize hlk : l[k] = q at *
     obtain ⟨a', b', c', d', e'⟩ := q
     simp only [Ke.cells, Qdp] at ld2 hm2
     simp only [Qn, Qg, Qf, Ql, Qa, Qc, nov, gd, rho, Qd, wr, Nat.reduceAdd, Nat.reduceSub, if_true, if_false, reduceIte, reduceCtorEq, Qi, Int.reduceBEq, Int.reduceBNe, Int.reduceLT, Int.reduceLE, ↓Qh, c1, at1, ld1, hm1, hq, c0, Kt, ta, new, Qb, hset, Qu, Qs, Qp, Nat.reduceLT, Nat.reduceEqDiff, splice, zerosN, Qo, Qr, Qk, V.pure, Nat.reduceMul, Nat.reduceLeDiff, Qq]
     repeat' ((first | refine W.guardF ?_ ?_ | refine W.guardT ?_ ?_ | refine W.guardXF ?_ ?_ | refine W.guardXT ?_ ?_ | refine W.ite ?_ ?_ | refine W.opsK1 (by kernel_rfl) ?_) <;> intro h <;> simp only [Qn, Qg, Qf, Ql, Qa, Qc, nov, gd, rho, Qd, wr, Nat.reduceAdd, Nat.reduceSub, if_true, if_false, reduceIte, reduceCtorEq, Qi, Int.reduceBEq, Int.reduceBNe, Int.reduceLT, Int.reduceLE, ↓Qh, h, hm1, hq, c0, Kt, wk, at2, ld2, hm2, ta, new, Qb, hset, Qu, Qs, Qp, Nat.reduceLT, Nat.reduceEqDiff, splice, zerosN, Qo, Qr, Qk, V.pure, Nat.reduceMul, Nat.reduceLeDiff, Qq])
     all_goals first
     | (refine W.done ?_
        simp only [Qn, Qg, Qf, Ql, Qa, Qc, nov, gd, rho, Qd, wr, Nat.reduceAdd, Nat.reduceSub, if_true, if_false, reduceIte, reduceCtorEq, Qi, Int.reduceBEq, Int.reduceBNe, Int.reduceLT, Int.reduceLE, ↓Qh]
        refine W.done (Zv.ret rfl rfl ?_)
        rw [hS]
        simp only [*, Jt, if_true, if_false, okE]
        try rfl)
     | (simp only [Qn, Qg, Qf, Ql, Qa, Qc, nov, gd, rho, Qd, wr, Nat.reduceAdd, Nat.reduceSub, if_true, if_false, reduceIte, reduceCtorEq, Qi, Int.reduceBEq, Int.reduceBNe, Int.reduceLT, Int.reduceLE, ↓Qh, w1]
        refine W.done ⟨_, ⟨_, rfl, by omega, rfl, .inr ⟨_, rfl⟩, ?_⟩, by omega⟩
        rw [hS, hnx]
        simp only [*, Jt, if_true, if_false]
        try rfl)
 . have c1 : decide ((i : Int) < l.length) = false := Zlr (by omega)
   simp only [Qn, Qg, Qf, Ql, Qa, Qc, nov, gd, rho, Qd, wr, Nat.reduceAdd, Nat.reduceSub, if_true, if_false, reduceIte, reduceCtorEq, Qi, Int.reduceBEq, Int.reduceBNe, Int.reduceLT, Int.reduceLE, ↓Qh, c1]
   refine W.done ?_
   simp only [Qn, Qg, Qf, Ql, Qa, Qc, nov, gd, rho, Qd, wr, Nat.reduceAdd, Nat.reduceSub, if_true, if_false, reduceIte, reduceCtorEq, Qi, Int.reduceBEq, Int.reduceBNe, Int.reduceLT, Int.reduceLE, ↓Qh]
   refine W.done (Zv.ret rfl rfl ?_)
   rw [<- hR, Zkz (by omega)]
   cases hb : before l i <;> rfl
end
section
set_option maxRecDepth 100000
open Go.AM
attribute [local irreducible] U W
set_option maxHeartbeats 8000000 in
theorem Qu6 (v : V) (ls : List Jn) (hv : Qgd v ls) : Fz Tryz.prog Qz 80 [v] fun x => x = .bool (Qbl ls) := by
 refine Js Tryz.func80 rfl ?_
 have hv0 := hv
 obtain ⟨cs, hc, hv⟩ := hv
 have len := hv.len Tryz.underlying33
 have sv := Qcq hv
 simp only [Qn, Qg, Qf, Ql, Qa, Qc, nov, gd, rho, Qd, wr, Nat.reduceAdd, Nat.reduceSub, if_true, if_false, reduceIte, reduceCtorEq, Qi, Int.reduceBEq, Int.reduceBNe, Int.reduceLT, Int.reduceLE, ↓Qh, Tryz.ntmps80, ta, new, Qb, hset, Qu, Qs, Qp, Nat.reduceLT, Nat.reduceEqDiff, splice, zerosN, Qo, Qr, Qk, V.pure, Nat.reduceMul, Nat.reduceLeDiff, Qq, len]
 refine W.ite ?_ ?_ <;> intro h <;> simp only [Qn, Qg, Qf, Ql, Qa, Qc, nov, gd, rho, Qd, wr, Nat.reduceAdd, Nat.reduceSub, if_true, if_false, reduceIte, reduceCtorEq, Qi, Int.reduceBEq, Int.reduceBNe, Int.reduceLT, Int.reduceLE, ↓Qh, ta, new, Qb, hset, Qu, Qs, Qp, Nat.reduceLT, Nat.reduceEqDiff, splice, zerosN, Qo, Qr, Qk, V.pure, Nat.reduceMul, Nat.reduceLeDiff, Qq, len]
 . exact W.done (Zv.ret rfl rfl (by simp only [Qbl, h]; rfl))
 have hl : ls.length <= 16 := by have := of_decide_eq_false h; omega
 have hD : Qbl ls = if Qd0 none ls then Qea ls ls else false := by simp only [Qbl, h]; rfl
 rw [hD]
 refine W.ul ?_
 refine W.loop (fun (i : Nat) t H => ∃ F : AM.Frame, Bl [0, 10, 11, 12] t 0 = Qv0 v v (.int .i64 ls.length) (.int .i64 i) /\ i <= ls.length /\ H = [F] /\ (F = [] \/ ∃ x, F = [(4, .cells x)]) /\ Qd0 (before ls i) (ls.drop i) = Qd0 none ls) (fun i => ls.length - i) ?_ 0 ⟨_, rfl, by omega, rfl, .inl rfl, rfl⟩ rfl
 rintro i t H ⟨F, ht, hi, rfl, hF, hR⟩
 have hd : ([F] : Heap).modify 0 (J7 fun s => [4].contains s) = [[]] := by
  rcases hF with rfl | ⟨x, rfl⟩ <;> rfl
 have vr : v.refs (fun f s => f == 0 && [4].contains s) = false := hv.noRefs _
 refine ⟨_, _, Ye (kt := [0, 10, 11, 12]) (ds := [4]) rfl ?_ ?_, ?_⟩
 . rw [ht]
   simp only [Qv0, Qx, V.refs, vr]; simp
 . rw [hd]
   simp only [Zi, Zn, O.refs, Qx, V.refs]; simp
 rw [ht, hd]
 simp only [Qv0]
 by_cases h : i < ls.length
 . have c1 : decide ((i : Int) < ls.length) = true := Zlq (by omega)
   have at1 := hv.at (k := .i64) Tryz.underlying33 Qri (by decide) (i := (i : Int)) (by omega) (by omega)
   obtain ⟨dv, hdv, ld⟩ := hc.ld h
   have sc := Qcq hdv
   have ld1 : ∀ g, ldV Tryz.prog 62 g (.iptr cs ((i : Int).toNat * 13)) = _ := ld
   have w1 : (IntKind.i64).wrap ((i : Int) + 1) = ((i + 1 : Nat) : Int) := by rw [wrap_i64] <;> omega
   have hS : Qd0 (before ls i) (ls.drop i) = if decide (ls[i].id < 1) || (decide (ls[i].id > 255) || ((match before ls i with | some q => decide (ls[i].id <= q.id) | none => false) || ((ls[i].kind != 1) && (ls[i].kind != 2)))) then false else Qd0 (before ls (i + 1)) (ls.drop (i + 1)) := by
    rw [Zlh h]
    have e : before ls (i + 1) = some ls[i] := by simp only [before, Zis h]
    rw [e]; rfl
   rw [hR] at hS
   generalize hp : ls[i] = p at *
   obtain ⟨id, kind, owner, prev, txg, guid, key, root, dead⟩ := p
   obtain ⟨ra, rb, rc, rd, re⟩ := root
   simp only [Ku] at ld1
   simp only at hS
   generalize hnx : Qd0 (before ls (i + 1)) (ls.drop (i + 1)) = nx at hS
   cases i with
   | zero =>
     have c0 : decide (((0 : Nat) : Int) > 0) = false := rfl
     have hb0 : before ls 0 = none := rfl
     simp only [hb0] at hS
     simp only [Qn, Qg, Qf, Ql, Qa, Qc, nov, gd, rho, Qd, wr, Nat.reduceAdd, Nat.reduceSub, if_true, if_false, reduceIte, reduceCtorEq, Qi, Int.reduceBEq, Int.reduceBNe, Int.reduceLT, Int.reduceLE, ↓Qh, c1, at1, ld1, sc, c0, ta, new, Qb, hset, Qu, Qs, Qp, Nat.reduceLT, Nat.reduceEqDiff, splice, zerosN, Qo, Qr, Qk, V.pure, Nat.reduceMul, Nat.reduceLeDiff, Qq]
     repeat' ((first | refine W.guardF ?_ ?_ | refine W.guardT ?_ ?_ | refine W.guardXF ?_ ?_ | refine W.guardXT ?_ ?_ | refine W.ite ?_ ?_ | refine W.opsK1 (by kernel_rfl) ?_) <;> intro h <;> simp only [Qn, Qg, Qf, Ql, Qa, Qc, nov, gd, rho, Qd, wr, Nat.reduceAdd, Nat.reduceSub, if_true, if_false, reduceIte, reduceCtorEq, Qi, Int.reduceBEq, Int.reduceBNe, Int.reduceLT, Int.reduceLE, ↓Qh, h, c0, ta, new, Qb, hset, Qu, Qs, Qp, Nat.reduceLT, Nat.reduceEqDiff, splice, zerosN, Qo, Qr, Qk, V.pure, Nat.reduceMul, Nat.reduceLeDiff, Qq])
     all_goals first
     | (refine W.done ?_
        simp only [Qn, Qg, Qf, Ql, Qa, Qc, nov, gd, rho, Qd, wr, Nat.reduceAdd, Nat.reduceSub, if_true, if_false, reduceIte, reduceCtorEq, Qi, Int.reduceBEq, Int.reduceBNe, Int.reduceLT, Int.reduceLE, ↓Qh]
        refine W.done (Zv.ret rfl rfl ?_)
        rw [hS]
        simp only [*, Jt, if_true, if_false, okE]
        try rfl)
     | (simp only [Qn, Qg, Qf, Ql, Qa, Qc, nov, gd, rho, Qd, wr, Nat.reduceAdd, Nat.reduceSub, if_true, if_false, reduceIte, reduceCtorEq, Qi, Int.reduceBEq, Int.reduceBNe, Int.reduceLT, Int.reduceLE, ↓Qh, w1]
        refine W.done ⟨_, ⟨_, rfl, by omega, rfl, .inr ⟨_, rfl⟩, ?_⟩, by omega⟩
        rw [hS, hnx]
        simp only [*, Jt, if_true, if_false]
        try rfl)
   | succ k =>
     have c0 : decide (((k + 1 : Nat) : Int) > 0) = true := Zlq (by omega)
     have wk : (IntKind.i64).wrap (((k + 1 : Nat) : Int) - 1) = ((k : Nat) : Int) := by rw [wrap_i64] <;> omega
     have hk : k < ls.length := by omega
     have at2 := hv.at (k := .i64) Tryz.underlying33 Qri (by decide) (i := (k : Int)) (by omega) (by omega)
     have hb : before ls (k + 1) = some ls[k] := by simp only [before, Zis hk]
     obtain ⟨j1, _, _, _⟩ := hc.cells hk
     have j1' : cs[(k : Int).toNat * 13 + 0]? = _ := j1
     simp only [hb] at hS
     simp only [Qn, Qg, Qf, Ql, Qa, Qc, nov, gd, rho, Qd, wr, Nat.reduceAdd, Nat.reduceSub, if_true, if_false, reduceIte, reduceCtorEq, Qi, Int.reduceBEq, Int.reduceBNe, Int.reduceLT, Int.reduceLE, ↓Qh, c1, at1, ld1, sc, c0, ta, new, Qb, hset, Qu, Qs, Qp, Nat.reduceLT, Nat.reduceEqDiff, splice, zerosN, Qo, Qr, Qk, V.pure, Nat.reduceMul, Nat.reduceLeDiff, Qq]
     repeat' ((first | refine W.guardF ?_ ?_ | refine W.guardT ?_ ?_ | refine W.guardXF ?_ ?_ | refine W.guardXT ?_ ?_ | refine W.ite ?_ ?_ | refine W.opsK1 (by kernel_rfl) ?_) <;> intro h <;> simp only [Qn, Qg, Qf, Ql, Qa, Qc, nov, gd, rho, Qd, wr, Nat.reduceAdd, Nat.reduceSub, if_true, if_false, reduceIte, reduceCtorEq, Qi, Int.reduceBEq, Int.reduceBNe, Int.reduceLT, Int.reduceLE, ↓Qh, h, c0, wk, at2, j1', ta, new, Qb, hset, Qu, Qs, Qp, Nat.reduceLT, Nat.reduceEqDiff, splice, zerosN, Qo, Qr, Qk, V.pure, Nat.reduceMul, Nat.reduceLeDiff, Qq])
     all_goals first
     | (refine W.done ?_
        simp only [Qn, Qg, Qf, Ql, Qa, Qc, nov, gd, rho, Qd, wr, Nat.reduceAdd, Nat.reduceSub, if_true, if_false, reduceIte, reduceCtorEq, Qi, Int.reduceBEq, Int.reduceBNe, Int.reduceLT, Int.reduceLE, ↓Qh]
        refine W.done (Zv.ret rfl rfl ?_)
        rw [hS]
        simp only [*, Jt, if_true, if_false, okE]
        try rfl)
     | (simp only [Qn, Qg, Qf, Ql, Qa, Qc, nov, gd, rho, Qd, wr, Nat.reduceAdd, Nat.reduceSub, if_true, if_false, reduceIte, reduceCtorEq, Qi, Int.reduceBEq, Int.reduceBNe, Int.reduceLT, Int.reduceLE, ↓Qh, w1]
        refine W.done ⟨_, ⟨_, rfl, by omega, rfl, .inr ⟨_, rfl⟩, ?_⟩, by omega⟩
        rw [hS, hnx]
        simp only [*, Jt, if_true, if_false]
        try rfl)
 . have c1 : decide ((i : Int) < ls.length) = false := Zlr (by omega)
   have hA : Qd0 none ls = true := by
    rw [<- hR, Zkz (by omega)]
    cases hb : before ls i <;> rfl
   rw [hA, if_pos rfl]
   simp only [Qn, Qg, Qf, Ql, Qa, Qc, nov, gd, rho, Qd, wr, Nat.reduceAdd, Nat.reduceSub, if_true, if_false, reduceIte, reduceCtorEq, Qi, Int.reduceBEq, Int.reduceBNe, Int.reduceLT, Int.reduceLE, ↓Qh, c1]
   refine W.done ?_
   simp only [Qn, Qg, Qf, Ql, Qa, Qc, nov, gd, rho, Qd, wr, Nat.reduceAdd, Nat.reduceSub, if_true, if_false, reduceIte, reduceCtorEq, Qi, Int.reduceBEq, Int.reduceBNe, Int.reduceLT, Int.reduceLE, ↓Qh, len, ta, new, Qb, hset, Qu, Qs, Qp, Nat.reduceLT, Nat.reduceEqDiff, splice, zerosN, Qo, Qr, Qk, V.pure, Nat.reduceMul, Nat.reduceLeDiff, Qq]
   refine W.ul ?_
   refine W.loop (fun (i : Nat) t H => ∃ F : AM.Frame, Bl [0, 51, 52, 53] t 0 = Qqp v v (.int .i64 ls.length) (.int .i64 i) /\ i <= ls.length /\ H = [F] /\ ((F = [] \/ ∃ x, F = [(4, .cells x)]) \/ ∃ x, F = [(6, .cells x)]) /\ Qea ls (ls.drop i) = Qea ls ls) (fun i => ls.length - i) ?_ 0 ⟨_, rfl, by omega, rfl, .inl (.inl rfl), rfl⟩ rfl
   rintro i t H ⟨F, ht, hi, rfl, hF, hR⟩
   have hd : ([F] : Heap).modify 0 (J7 fun s => [4, 6].contains s) = [[]] := by
    rcases hF with (rfl | ⟨x, rfl⟩) | ⟨x, rfl⟩ <;> rfl
   have vr : v.refs (fun f s => f == 0 && [4, 6].contains s) = false := hv.noRefs _
   refine ⟨_, _, Ye (kt := [0, 51, 52, 53]) (ds := [4, 6]) rfl ?_ ?_, ?_⟩
   . rw [ht]
     simp only [Qqp, Qx, V.refs, vr]; simp
   . rw [hd]
     simp only [Zi, Zn, O.refs, Qx, V.refs]; simp
   rw [ht, hd]
   simp only [Qqp]
   by_cases h : i < ls.length
   . have c1 : decide ((i : Int) < ls.length) = true := Zlq (by omega)
     have at1 := hv.at (k := .i64) Tryz.underlying33 Qri (by decide) (i := (i : Int)) (by omega) (by omega)
     obtain ⟨dv, hdv, ld⟩ := hc.ld h
     have sc := Qcq hdv
     have ld1 : ∀ g, ldV Tryz.prog 62 g (.iptr cs ((i : Int).toNat * 13)) = _ := ld
     have w1 : (IntKind.i64).wrap ((i : Int) + 1) = ((i + 1 : Nat) : Int) := by rw [wrap_i64] <;> omega
     have hS : Qea ls (ls.drop i) = if Qqr ls ls[i] then false else Qea ls (ls.drop (i + 1)) := by
      rw [Zlh h]; rfl
     rw [hR] at hS
     obtain ⟨m, rfl, hm⟩ := (Qb7 ls[i].root).op (by rfl) rfl
     have hm1 : ∀ s H, _ := fun s H => hm 80 0 s H rfl
     obtain ⟨m, rfl, hm⟩ := (Qs1 dv ls[i].dead hdv).op (by rfl) (Qt (hdv.frz _) rfl)
     have hm2 : ∀ s H, _ := fun s H => hm 80 0 s H rfl
     obtain ⟨m, rfl, hm⟩ := (kin_fz v ls hv0 (by omega) ls[i] dv hdv).op (by rfl) (Qt (hv.frz _) (Qt (Qmq hdv) rfl))
     have hm3 : ∀ s H, _ := fun s H => hm 80 0 s H rfl
     generalize hp : ls[i] = p at *
     obtain ⟨id, kind, owner, prev, txg, guid, key, root, dead⟩ := p
     obtain ⟨ra, rb, rc, rd, re⟩ := root
     simp only [Ku, Ke.cells] at ld1 hm1 hm2 hm3
     simp only [Qqr] at hS
     generalize hnx : Qea ls (ls.drop (i + 1)) = nx at hS
     simp only [Qn, Qg, Qf, Ql, Qa, Qc, nov, gd, rho, Qd, wr, Nat.reduceAdd, Nat.reduceSub, if_true, if_false, reduceIte, reduceCtorEq, Qi, Int.reduceBEq, Int.reduceBNe, Int.reduceLT, Int.reduceLE, ↓Qh, c1, at1, ld1, sc, hm1, hm2, hm3, Kt, ta, new, Qb, hset, Qu, Qs, Qp, Nat.reduceLT, Nat.reduceEqDiff, splice, zerosN, Qo, Qr, Qk, V.pure, Nat.reduceMul, Nat.reduceLeDiff, Qq]
     repeat' ((first | refine W.guardF ?_ ?_ | refine W.guardT ?_ ?_ | refine W.guardXF ?_ ?_ | refine W.guardXT ?_ ?_ | refine W.ite ?_ ?_ | refine W.opsK1 (by kernel_rfl) ?_) <;> intro h <;> simp only [Qn, Qg, Qf, Ql, Qa, Qc, nov, gd, rho, Qd, wr, Nat.reduceAdd, Nat.reduceSub, if_true, if_false, reduceIte, reduceCtorEq, Qi, Int.reduceBEq, Int.reduceBNe, Int.reduceLT, Int.reduceLE, ↓Qh, h, hm1, hm2, hm3, Kt, sc, ta, new, Qb, hset, Qu, Qs, Qp, Nat.reduceLT, Nat.reduceEqDiff, splice, zerosN, Qo, Qr, Qk, V.pure, Nat.reduceMul, Nat.reduceLeDiff, Qq])
     all_goals first
      | (refine W.done ?_
         simp only [Qn, Qg, Qf, Ql, Qa, Qc, nov, gd, rho, Qd, wr, Nat.reduceAdd, Nat.reduceSub, if_true, if_false, reduceIte, reduceCtorEq, Qi, Int.reduceBEq, Int.reduceBNe, Int.reduceLT, Int.reduceLE, ↓Qh]
         refine W.done (Zv.ret rfl rfl ?_)
         rw [hS]
         simp only [*, Jt, if_true, if_false, okE]
         try rfl)
      | (simp only [Qn, Qg, Qf, Ql, Qa, Qc, nov, gd, rho, Qd, wr, Nat.reduceAdd, Nat.reduceSub, if_true, if_false, reduceIte, reduceCtorEq, Qi, Int.reduceBEq, Int.reduceBNe, Int.reduceLT, Int.reduceLE, ↓Qh, w1]
         refine W.done ⟨_, ⟨_, rfl, by omega, rfl, .inr ⟨_, rfl⟩, ?_⟩, by omega⟩
         rw [hS, hnx]
         simp only [*, Jt, if_true, if_false]
         try rfl)
   . have c1 : decide ((i : Int) < ls.length) = false := Zlr (by omega)
     have hB : Qea ls ls = true := by
      rw [<- hR, Zkz (by omega)]; rfl
     rw [hB]
     simp only [Qn, Qg, Qf, Ql, Qa, Qc, nov, gd, rho, Qd, wr, Nat.reduceAdd, Nat.reduceSub, if_true, if_false, reduceIte, reduceCtorEq, Qi, Int.reduceBEq, Int.reduceBNe, Int.reduceLT, Int.reduceLE, ↓Qh, c1]
     refine W.done ?_
     simp only [Qn, Qg, Qf, Ql, Qa, Qc, nov, gd, rho, Qd, wr, Nat.reduceAdd, Nat.reduceSub, if_true, if_false, reduceIte, reduceCtorEq, Qi, Int.reduceBEq, Int.reduceBNe, Int.reduceLT, Int.reduceLE, ↓Qh, len, ta, new, Qb, hset, Qu, Qs, Qp, Nat.reduceLT, Nat.reduceEqDiff, splice, zerosN, Qo, Qr, Qk, V.pure, Nat.reduceMul, Nat.reduceLeDiff, Qq]
     exact W.done (Zv.ret rfl rfl rfl)
end
section
set_option maxRecDepth 100000
open Go.AM
attribute [local irreducible] U W
set_option maxHeartbeats 8000000 in
theorem Qrx (c : Ji) (dv : V) (hd : Qgm dv c.n) : Fz Tryz.prog Qz 83 [.agg (Jd c dv)] fun x => x = .bool (Qc3 c) := by
 refine Js Tryz.func83 rfl ?_
 obtain ⟨cells, hd⟩ := hd
 have sc := Qcq hd
 have len := Zo.len Tryz.underlying26 hd
 have hq := fun x y => Qrd (x := x) (y := y) c.laid Qdp
 obtain ⟨m, rfl, hm⟩ := (Qb7 c.laid).op (by rfl) rfl
 have hm1 : ∀ s H, _ := fun s H => hm 83 0 s H rfl
 obtain ⟨set, obj, index, kind, links, size, n, laid⟩ := c
 simp only [Qc3]
 simp only at hq hm1
 generalize Qgp laid = po at *
 generalize decide (laid = Qdp) = pz at *
 obtain ⟨a, b, c, d, e⟩ := laid
 simp only [Ke.cells, Qdp] at hm1 hq
 simp only [Qn, Qg, Qf, Ql, Qa, Qc, nov, gd, rho, Qd, wr, Nat.reduceAdd, Nat.reduceSub, if_true, if_false, reduceIte, reduceCtorEq, Qi, Int.reduceBEq, Int.reduceBNe, Int.reduceLT, Int.reduceLE, ↓Qh, Tryz.ntmps83, ta, new, Qb, hset, Qu, Qs, Qp, Nat.reduceLT, Nat.reduceEqDiff, splice, zerosN, Qo, Qr, Qk, V.pure, Nat.reduceMul, Nat.reduceLeDiff, Qq, Jd, sc, len, hq, hm1, Kt, Q3h]
 repeat' ((first | refine W.guardF ?_ ?_ | refine W.guardT ?_ ?_ | refine W.guardXF ?_ ?_ | refine W.guardXT ?_ ?_ | refine W.ite ?_ ?_ | refine W.opsK1 (by kernel_rfl) ?_) <;> intro h <;> simp only [Qn, Qg, Qf, Ql, Qa, Qc, nov, gd, rho, Qd, wr, Nat.reduceAdd, Nat.reduceSub, if_true, if_false, reduceIte, reduceCtorEq, Qi, Int.reduceBEq, Int.reduceBNe, Int.reduceLT, Int.reduceLE, ↓Qh, h, hm1, hq, sc, len, Kt, Q3h, ta, new, Qb, hset, Qu, Qs, Qp, Nat.reduceLT, Nat.reduceEqDiff, splice, zerosN, Qo, Qr, Qk, V.pure, Nat.reduceMul, Nat.reduceLeDiff, Qq])
 all_goals refine W.done (Zv.ret rfl rfl ?_)
 all_goals first | rfl | (simp only [*, Jt, if_true, if_false]; try rfl)
end
section
set_option maxRecDepth 100000
open Go.AM
attribute [local irreducible] U W
theorem Q2g (a b : Ji) (av bv : V) (ha : Qgm av a.n) (hb : Qgm bv b.n) : Fz Tryz.prog Qz 84 [.agg (Jd a av), .agg (Jd b bv)] fun x => x = .int .i64 (Qji a b) := by
 refine Js Tryz.func84 rfl ?_
 obtain ⟨ca, ha⟩ := ha
 obtain ⟨cb, hb⟩ := hb
 have sa := Qcq ha
 have sb := Qcq hb
 obtain ⟨m, rfl, hm⟩ := (Ky a.set b.set).op (by rfl) rfl
 have hm1 : ∀ s H, _ := fun s H => hm 84 0 s H rfl
 obtain ⟨m, rfl, hm⟩ := (Ky a.obj b.obj).op (by rfl) rfl
 have hm2 : ∀ s H, _ := fun s H => hm 84 0 s H rfl
 obtain ⟨m, rfl, hm⟩ := (Ky a.index b.index).op (by rfl) rfl
 have hm3 : ∀ s H, _ := fun s H => hm 84 0 s H rfl
 obtain ⟨m, rfl, hm⟩ := (or_fz (.iS [.int .i64 (B8 a.set b.set), .int .i64 (B8 a.obj b.obj), .int .i64 (B8 a.index b.index)] 3 true) [B8 a.set b.set, B8 a.obj b.obj, B8 a.index b.index] (Ba.mk _ _) (by simp)).op (by rfl) rfl
 have hm4 : ∀ s H, _ := fun s H => hm 84 0 s H rfl
 have mt : Qz.mt 84 20 = false := by rfl
 simp only [Qn, Qg, Qf, Ql, Qa, Qc, nov, gd, rho, Qd, wr, Nat.reduceAdd, Nat.reduceSub, if_true, if_false, reduceIte, reduceCtorEq, Qi, Int.reduceBEq, Int.reduceBNe, Int.reduceLT, Int.reduceLE, ↓Qh, Tryz.ntmps84, ta, new, Qb, hset, Qu, Qs, Qp, Nat.reduceLT, Nat.reduceEqDiff, splice, zerosN, Qo, Qr, Qk, V.pure, Nat.reduceMul, Nat.reduceLeDiff, Qq, Jd, sa, sb, hm1, hm2, hm3, hm4, Tryz.underlying32, sz3, zc3, Zja, Zki, Zjz, mt]
 repeat' ((first | refine W.guardF ?_ ?_ | refine W.guardT ?_ ?_ | refine W.guardXF ?_ ?_ | refine W.guardXT ?_ ?_ | refine W.ite ?_ ?_ | refine W.opsK1 (by kernel_rfl) ?_) <;> intro h <;> simp only [Qn, Qg, Qf, Ql, Qa, Qc, nov, gd, rho, Qd, wr, Nat.reduceAdd, Nat.reduceSub, if_true, if_false, reduceIte, reduceCtorEq, Qi, Int.reduceBEq, Int.reduceBNe, Int.reduceLT, Int.reduceLE, ↓Qh, h, mt])
 all_goals refine W.done (Zv.ret rfl rfl ?_)
 all_goals first | rfl | (simp only [Qji, *, Jt, if_true, if_false]; try rfl)
/-! ### Keys -/
theorem byt_u8 : byt Tryz.prog 5 = some 1 := by kernel_rfl
theorem tok_sl (mt : Nat -> Bool) (dst : Option Nat) (x : V) : Qif Tryz.prog mt dst 26 9 x = none := by
 cases dst <;> simp only [Qif, Tryz.underlying26, Tryz.underlying9]
theorem Q2s (x y : V) (k l : List UInt8) (hx : Q1 x k) (hy : Q1 y l) : CW Tryz.prog Qz 62 [x, y] [] fun r _ => r = .ret (.bool (decide (k = l))) := by
 refine Xm Tryz.func62 rfl ?_
 have c1 := fun g => Qnk (P := Tryz.prog) (g := g) (s := 26) (d := 9) Tryz.underlying26 Tryz.underlying5 Tryz.underlying9 (Zo.sc (g := g) hx)
 have c2 := fun g => Qnk (P := Tryz.prog) (g := g) (s := 26) (d := 9) Tryz.underlying26 Tryz.underlying5 Tryz.underlying9 (Zo.sc (g := g) hy)
 simp only [Qn, Qg, Qf, Ql, Qa, Qc, nov, gd, rho, Qd, wr, Nat.reduceAdd, Nat.reduceSub, if_true, if_false, reduceIte, reduceCtorEq, Qi, Int.reduceBEq, Int.reduceBNe, Int.reduceLT, Int.reduceLE, ↓Qh, Tryz.ntmps62, ta, new, Qb, hset, Qu, Qs, Qp, Nat.reduceLT, Nat.reduceEqDiff, splice, zerosN, Qo, Qr, Qk, V.pure, Nat.reduceMul, Nat.reduceLeDiff, Qq, c1, c2, tok_sl]
 refine W.done (End.ret (v := .bool (decide (k = l))) ?_ rfl)
 have e : (k == l) = decide (k = l) := by rw [Bool.eq_iff_iff]; simp
 rw [<- e]; rfl
theorem Q4x (x : V) (k : List UInt8) (hk : Q1 x k) (hl : k.length <= 1000000) (many : Int) (hm : many = 24 \/ many = 16) :
 CW Tryz.prog Qz 130 [x, .ptr 0 3 0] [[(3, .cells [.int .i64 many])], [], []] fun r H => r = .ret (.bool (Xn many k)) /\ H = [[(3, .cells [.int .i64 many])], [], []] := by
 refine Xm Tryz.func130 rfl ?_
 have len := Zo.len Tryz.underlying26 hk
 rcases hm with rfl | rfl
 . obtain ⟨r, H', e1, e2⟩ := Q2s x (.iS (Qj (List.replicate 24 0)) 24 true) k (List.replicate 24 0) hk (Q1.mk _ _)
   subst e2
   have hc : ∀ d, callOp Qz (Q5 Tryz.prog Qz) 130 3 d 62 [x, .mS 3 18 0 24 (some 24) 1] [[(3, .cells [.int .i64 24])], [], [], [(18, .cells (zerosN [.int .u8 0] 24))]] = some (.ret (.bool (decide (k = List.replicate 24 0))), _) :=
    fun d => Qvv rfl rfl rfl rfl (Qt (Zo.frz hk _) (Qt rfl rfl)) e1 rfl
   have un := Tryz.underlying26
   have rm : Yq 24 1 = true := by rfl
   simp only [Qn, Qg, Qf, Ql, Qa, Qc, nov, gd, rho, Qd, wr, Nat.reduceAdd, Nat.reduceSub, if_true, if_false, reduceIte, reduceCtorEq, Qi, Int.reduceBEq, Int.reduceBNe, Int.reduceLT, Int.reduceLE, ↓Qh, Tryz.ntmps130, ta, new, Qb, hset, Qu, Qs, Qp, Nat.reduceLT, Nat.reduceEqDiff, splice, zerosN, Qo, Qr, Qk, V.pure, Nat.reduceMul, Nat.reduceLeDiff, Qq, Zja, Zki, len]
   have t24 : Int.toNat 24 = 24 := rfl
   have t24' : (24 : Int) <= 24 := Int.le_refl _
   repeat' ((first | refine W.guardF ?_ ?_ | refine W.guardT ?_ ?_ | refine W.guardXF ?_ ?_ | refine W.guardXT ?_ ?_ | refine W.ite ?_ ?_ | refine W.opsK1 (by kernel_rfl) ?_) <;> intro h <;> simp only [Qn, Qg, Qf, Ql, Qa, Qc, nov, gd, rho, Qd, wr, Nat.reduceAdd, Nat.reduceSub, if_true, if_false, reduceIte, reduceCtorEq, Qi, Int.reduceBEq, Int.reduceBNe, Int.reduceLT, Int.reduceLE, ↓Qh, h, ta, new, Qb, hset, Qu, Qs, Qp, Nat.reduceLT, Nat.reduceEqDiff, len, un, sz5, zc5, byt_u8, rm, t24, hc, Int.le_refl, true_and, and_true, Zja, Zki, Nat.reduceLeDiff])
   all_goals refine W.done (End.ret (v := .bool (Xn 24 k)) ?_ ⟨rfl, rfl⟩)
   all_goals simp only [Xn, *, Zks, Zle, Bool.true_or, Bool.or_true, Zku, Bool.or_false]
   all_goals rfl
 . simp only [Qn, Qg, Qf, Ql, Qa, Qc, nov, gd, rho, Qd, wr, Nat.reduceAdd, Nat.reduceSub, if_true, if_false, reduceIte, reduceCtorEq, Qi, Int.reduceBEq, Int.reduceBNe, Int.reduceLT, Int.reduceLE, ↓Qh, Tryz.ntmps130, ta, new, Qb, hset, Qu, Qs, Qp, Nat.reduceLT, Nat.reduceEqDiff, splice, zerosN, Qo, Qr, Qk, V.pure, Nat.reduceMul, Nat.reduceLeDiff, Qq, Zja, Zki, len]
   have e : ((16 : Int) == 24) = false := rfl
   repeat' ((first | refine W.guardF ?_ ?_ | refine W.guardT ?_ ?_ | refine W.guardXF ?_ ?_ | refine W.guardXT ?_ ?_ | refine W.ite ?_ ?_ | refine W.opsK1 (by kernel_rfl) ?_) <;> intro h <;> simp only [Qn, Qg, Qf, Ql, Qa, Qc, nov, gd, rho, Qd, wr, Nat.reduceAdd, Nat.reduceSub, if_true, if_false, reduceIte, reduceCtorEq, Qi, Int.reduceBEq, Int.reduceBNe, Int.reduceLT, Int.reduceLE, ↓Qh, h, ta, new, Qb, hset, Qu, Qs, Qp, Nat.reduceLT, Nat.reduceEqDiff, len, e])
   all_goals refine W.done (End.ret (v := .bool (Xn 16 k)) ?_ ⟨rfl, rfl⟩)
   all_goals simp only [Xn, *, Zks, Zle, Bool.true_or, Bool.or_true, Zku, Bool.or_false]
   all_goals rfl
end
end Go.Proofs.YtafhcdagifopeaaGreatDoor
