/- This file holds in one the texts E12, DV; each says at its head what it proves. -/
import Derived.Test.YtafhcdagifopeaaGreatDoorT28
import Derived.Test.YtafhcdagifopeaaGreatDoorT31
import Derived.Test.YtafhcdagifopeaaGreatDoorT34
import Derived.Test.YtafhcdagifopeaaGreatDoorT36
set_option linter.unusedSimpArgs false
set_option linter.unusedVariables false
namespace Go.Proofs.YtafhcdagifopeaaGreatDoor
section
set_option maxRecDepth 100000
open Go.AM
attribute [local irreducible] U W
theorem Qay (x y : Operand) (a b : Bool) : Zz Tryz.prog .neq 4 x y (.bool a) (.bool b) = some (.bool (a != b)) := by
 have hg : (Tryz.prog).eqGuardType (Tryz.prog).depth 4 = false := by kernel_rfl
 simp only [Zz, Qju, Tryz.underlying4, hg, eqV, Ziw, if_false]
 cases a <;> cases b <;> rfl
set_option maxHeartbeats 16000000 in
theorem Q17 {bv wv sv mv lv kv ov cv : V} {d : Int} {space : List UInt8} {p : Qj6} (hp : Q24 bv wv sv mv lv kv ov cv d space p) : Fz Tryz.prog Qz 48 [.agg (Q33 bv wv sv mv lv kv ov cv p)] fun x => x = .int .i64 (okE (Qw3 d (B3 space) (Qeh space) p)) := by
 refine Js Tryz.func48 rfl ?_
 obtain ⟨hdev, hfrz, hfr0, hnr, sb, sw, hspace, hown, ⟨lcs, hlc, hlv⟩, hkeys, hload, ⟨ccs, hcc, hcv⟩, f1, f2, f3, f4, f5, f6, f7⟩ := hp
 have ss := Qcq hspace
 have sm := Qcq hown
 have sl := Qcq hlv
 obtain ⟨kcs, hkc, hkv⟩ := hkeys
 have sk := Qcq hkv
 obtain ⟨ocs, hoc, hov⟩ := hload
 have so := Qcq hov
 have sc := Qcq hcv
 obtain ⟨epoch, count, gen, root, own, lines, keys, loaded, changes, logged, nid, ng⟩ := p
 simp only at *
 obtain ⟨m, rfl, hm⟩ := (Qo1 bv wv sv d hdev hfrz sb sw space hspace epoch count).op (by rfl) (by
  refine Qt ?_ rfl
  have e : Zc (frz (fun _ _ => none) 11) [bv, wv, sv, .int .u32 epoch, .int .u32 count] = some [bv, wv, sv, .int .u32 epoch, .int .u32 count] :=
   Qt (hfr0 _ 1).1 (Qt (hfr0 _ 1).2 (Qt (Zo.frz hspace _) rfl))
  show Option.map V.agg (Zc (frz _ 11) _) = _
  rw [e]; rfl)
 have hm1 : ∀ s H, _ := fun s H => hm 48 0 s H rfl
 obtain ⟨m, rfl, hm⟩ := (Qb7 root).op (by rfl) rfl
 have hm2 : ∀ s H, _ := fun s H => hm 48 0 s H rfl
 have hq := fun x y => Qrd (x := x) (y := y) root Qdp
 have len := hown.len Tryz.underlying32
 have hD : ∀ r, okE (Qw3 d (B3 space) (Qeh space) ⟨epoch, count, gen, r, own, lines, keys, loaded, changes, logged, nid, ng⟩) = okE (if Qrn d (B3 space) ⟨epoch, count, gen, r, own, lines, keys, loaded, changes, logged, nid, ng⟩ then false else if Qgs (Qeh space) none own then (if Qwy ⟨epoch, count, gen, r, own, lines, keys, loaded, changes, logged, nid, ng⟩ then false else if Qn3 lines none changes then !(lines.any (J5 nid ng)) else false) else false) := fun r => rfl
 rw [hD]
 have hH : ∀ r, Qrn d (B3 space) ⟨epoch, count, gen, r, own, lines, keys, loaded, changes, logged, nid, ng⟩ = ((!(Qdk d (B3 space) epoch count)) || (decide (gen > 16777215) || (!(Qgp r) || (decide (r = Qdp) != (gen == 0))))) := fun r => rfl
 rw [hH]
 generalize hMB : Qwy _ = mb
 have hMB' : mb = ((!(Qbl lines)) || ((!(Qb9 keys 24)) || ((!(Qb9 loaded 16)) || (decide (logged < 0) || (decide (logged > 8) || (decide (nid < 1) || decide (nid > 256))))))) := hMB.symm
 clear hMB hD hH
 generalize Qgp root = po at *
 generalize decide (root = Qdp) = pz at *
 generalize hst : Qdk d (B3 space) epoch count = st at *
 obtain ⟨ra, rb, rc, rd, re⟩ := root
 simp only [Ke.cells, Qdp] at hm2 hq
 generalize hnb : (if Qgs (Qeh space) none own = true then if mb = true then false else if Qn3 lines none changes = true then !lines.any (J5 nid ng) else false else false) = nb
 simp only [Qn, Qg, Qf, Ql, Qa, Qc, nov, gd, rho, Qd, wr, Nat.reduceAdd, Nat.reduceSub, if_true, if_false, reduceIte, reduceCtorEq, Qi, Int.reduceBEq, Int.reduceBNe, Int.reduceLT, Int.reduceLE, ↓Qh, Tryz.ntmps48, ta, new, Qb, hset, Qu, Qs, Qp, Nat.reduceLT, Nat.reduceEqDiff, splice, zerosN, Qo, Qr, Qk, V.pure, Nat.reduceMul, Nat.reduceLeDiff, Qq, Q33, sb, sw, ss, sm, sl, sk, so, sc, hm1, hm2, hq, Kt, Qay]
 repeat' ((first | refine W.guardF ?_ ?_ | refine W.guardT ?_ ?_ | refine W.guardXF ?_ ?_ | refine W.guardXT ?_ ?_ | refine W.ite ?_ ?_ | refine W.opsK1 (by kernel_rfl) ?_) <;> intro h <;> simp only [Qn, Qg, Qf, Ql, Qa, Qc, nov, gd, rho, Qd, wr, Nat.reduceAdd, Nat.reduceSub, if_true, if_false, reduceIte, reduceCtorEq, Qi, Int.reduceBEq, Int.reduceBNe, Int.reduceLT, Int.reduceLE, ↓Qh, h, ta, new, Qb, hset, Qu, Qs, Qp, Nat.reduceLT, Nat.reduceEqDiff, splice, zerosN, Qo, Qr, Qk, V.pure, Nat.reduceMul, Nat.reduceLeDiff, Qq, sb, sw, ss, sm, sl, sk, so, sc, hm1, hm2, hq, Kt, Qay, len])
 all_goals first
  | (refine W.done (Zv.ret rfl rfl ?_)
     simp only [*, Jt, if_true, if_false]
     rfl)
  | skip
 have eQ : okE (if (false || (false || (false || false))) = true then false else nb) = okE nb := rfl
 rw [eQ]
 have hst2 : Qdk d (B3 space) epoch count = true := by rw [hst]; simpa using ‹(!st) = false›
 have hsp : space.length = 256 := by
  simp only [Qdk, Zke, Zk5, Bool.not_eq_false', B3, Zjj, beq_iff_eq] at hst2
  exact hst2.2.1.1.1
 have pcD : ∃ pc, pc = [bv, wv, sv, V.int .u32 epoch, V.int .u32 count, V.int .u32 gen, V.int .i64 ra, V.int .u32 rb, V.int .u32 rc, V.int .u32 rd, V.int .u32 re, mv, lv, kv, ov, cv, V.int .i64 logged, V.int .i64 nid, V.int .u32 ng] := ⟨_, rfl⟩
 obtain ⟨pc, hpc⟩ := pcD
 rw [<- hpc]
 have g2 : pc[2]? = some sv := by rw [hpc]; rfl
 have g11 : pc[11]? = some mv := by rw [hpc]; rfl
 have g12 : pc[12]? = some lv := by rw [hpc]; rfl
 have g13 : pc[13]? = some kv := by rw [hpc]; rfl
 have g14 : pc[14]? = some ov := by rw [hpc]; rfl
 have g15 : pc[15]? = some cv := by rw [hpc]; rfl
 have g16 : pc[16]? = some (.int .i64 logged) := by rw [hpc]; rfl
 have g17 : pc[17]? = some (.int .i64 nid) := by rw [hpc]; rfl
 have g18 : pc[18]? = some (.int .u32 ng) := by rw [hpc]; rfl
 have gl : pc.length = 19 := by rw [hpc]; rfl
 have gr : ∀ q, Qx q pc = false := fun q => by
  rw [hpc]
  simp only [Qx, V.refs, (hnr q).1, (hnr q).2, hspace.noRefs q, hown.noRefs q, hlv.noRefs q, hkv.noRefs q, hov.noRefs q, hcv.noRefs q, Bool.or_false, Bool.or_self]
 clear hpc hm1 hm2 hq hst2
 refine W.ul ?_
 refine W.loopS (kt := [1, 34, 35, 36]) rfl (fun i : Nat => Q2v (.ptr 0 1 0) mv (.int .i64 own.length) (.int .i64 i)) (fun _ => [[(1, .cells pc)]]) (fun i => i <= own.length /\ Qgs (Qeh space) (before own i) (own.drop i) = Qgs (Qeh space) none own) (fun i => own.length - i) ?_ 0 ⟨by omega, rfl⟩ rfl rfl
 rintro i ⟨hi, hR⟩
 simp only [Q2v]
 by_cases h : i < own.length
 . have c1 : decide ((i : Int) < own.length) = true := Zlq (by omega)
   have at1 := hown.at (k := .i64) Tryz.underlying32 sz3 (by decide) (i := (i : Int)) (by omega) (by omega)
   have w1 : (IntKind.i64).wrap ((i : Int) + 1) = ((i + 1 : Nat) : Int) := by rw [wrap_i64] <;> omega
   have q1 : (Q3 own)[(i : Int).toNat * 1]? = some (.int .i64 own[i]) := by simp [h, Q3]
   have q1' : (Q3 own)[(i : Int).toNat]? = some (.int .i64 own[i]) := by simp [h, Q3]
   have hS : Qgs (Qeh space) (before own i) (own.drop i) = if decide (own[i] < 12) || (decide (own[i] >= 256) || ((match before own i with | some q => decide (own[i] <= q) | none => false) || (Qeh space own[i].toNat != 1))) then false else Qgs (Qeh space) (before own (i + 1)) (own.drop (i + 1)) := by
    rw [Zlh h]
    have e : before own (i + 1) = some own[i] := by simp only [before, Zis h]
    rw [e]; rfl
   rw [hR] at hS
   generalize hp : own[i] = a at *
   generalize hnx : Qgs (Qeh space) (before own (i + 1)) (own.drop (i + 1)) = nx at hS
   have walkR : ∀ (X : List (Nat × Nat)), True := fun _ => trivial
   by_cases hA : decide (a < 12) = true
   . simp only [Qn, Qg, Qf, Ql, Qa, Qc, nov, gd, rho, Qd, wr, Nat.reduceAdd, Nat.reduceSub, if_true, if_false, reduceIte, reduceCtorEq, Qi, Int.reduceBEq, Int.reduceBNe, Int.reduceLT, Int.reduceLE, ↓Qh, c1, at1, q1, q1', hA, rd3, ta, new, Qb, hset, Qu, Qs, Qp, Nat.reduceLT, Nat.reduceEqDiff]
     repeat' ((first | refine W.guardF ?_ ?_ | refine W.guardT ?_ ?_ | refine W.guardXF ?_ ?_ | refine W.guardXT ?_ ?_ | refine W.ite ?_ ?_ | refine W.opsK1 (by kernel_rfl) ?_) <;> intro h <;> simp only [Qn, Qg, Qf, Ql, Qa, Qc, nov, gd, rho, Qd, wr, Nat.reduceAdd, Nat.reduceSub, if_true, if_false, reduceIte, reduceCtorEq, Qi, Int.reduceBEq, Int.reduceBNe, Int.reduceLT, Int.reduceLE, ↓Qh, h, ta, new, Qb, hset, Qu, Qs, Qp, Nat.reduceLT, Nat.reduceEqDiff])
     all_goals first
      | (refine W.done ?_
         simp only [Qn, Qg, Qf, Ql, Qa, Qc, nov, gd, rho, Qd, wr, Nat.reduceAdd, Nat.reduceSub, if_true, if_false, reduceIte, reduceCtorEq, Qi, Int.reduceBEq, Int.reduceBNe, Int.reduceLT, Int.reduceLE, ↓Qh]
         refine W.done (Zv.ret rfl rfl ?_)
         rw [<- hnb, hS]
         simp only [*, Jt, if_true, if_false]
         try rfl)
      | (simp only [Qn, Qg, Qf, Ql, Qa, Qc, nov, gd, rho, Qd, wr, Nat.reduceAdd, Nat.reduceSub, if_true, if_false, reduceIte, reduceCtorEq, Qi, Int.reduceBEq, Int.reduceBNe, Int.reduceLT, Int.reduceLE, ↓Qh, w1]
         refine W.done ⟨i + 1, rfl, rfl, ⟨by omega, ?_⟩, by omega⟩
         rw [hS, hnx]
         simp only [*, Jt, if_true, if_false]
         try rfl)
   have hA' : decide (a < 12) = false := by simpa using hA
   by_cases hB : decide (a >= 256) = true
   . simp only [Qn, Qg, Qf, Ql, Qa, Qc, nov, gd, rho, Qd, wr, Nat.reduceAdd, Nat.reduceSub, if_true, if_false, reduceIte, reduceCtorEq, Qi, Int.reduceBEq, Int.reduceBNe, Int.reduceLT, Int.reduceLE, ↓Qh, c1, at1, q1, q1', hA', hB, rd3, ta, new, Qb, hset, Qu, Qs, Qp, Nat.reduceLT, Nat.reduceEqDiff]
     repeat' ((first | refine W.guardF ?_ ?_ | refine W.guardT ?_ ?_ | refine W.guardXF ?_ ?_ | refine W.guardXT ?_ ?_ | refine W.ite ?_ ?_ | refine W.opsK1 (by kernel_rfl) ?_) <;> intro h <;> simp only [Qn, Qg, Qf, Ql, Qa, Qc, nov, gd, rho, Qd, wr, Nat.reduceAdd, Nat.reduceSub, if_true, if_false, reduceIte, reduceCtorEq, Qi, Int.reduceBEq, Int.reduceBNe, Int.reduceLT, Int.reduceLE, ↓Qh, h, ta, new, Qb, hset, Qu, Qs, Qp, Nat.reduceLT, Nat.reduceEqDiff])
     all_goals first
      | (refine W.done ?_
         simp only [Qn, Qg, Qf, Ql, Qa, Qc, nov, gd, rho, Qd, wr, Nat.reduceAdd, Nat.reduceSub, if_true, if_false, reduceIte, reduceCtorEq, Qi, Int.reduceBEq, Int.reduceBNe, Int.reduceLT, Int.reduceLE, ↓Qh]
         refine W.done (Zv.ret rfl rfl ?_)
         rw [<- hnb, hS]
         simp only [*, Jt, if_true, if_false]
         try rfl)
      | (simp only [Qn, Qg, Qf, Ql, Qa, Qc, nov, gd, rho, Qd, wr, Nat.reduceAdd, Nat.reduceSub, if_true, if_false, reduceIte, reduceCtorEq, Qi, Int.reduceBEq, Int.reduceBNe, Int.reduceLT, Int.reduceLE, ↓Qh, w1]
         refine W.done ⟨i + 1, rfl, rfl, ⟨by omega, ?_⟩, by omega⟩
         rw [hS, hnx]
         simp only [*, Jt, if_true, if_false]
         try rfl)
   have hB' : decide (a >= 256) = false := by simpa using hB
   have h1' : 12 <= a := by have := of_decide_eq_false hA'; omega
   have h2' : a < 256 := by have := of_decide_eq_false hB'; omega
   have hlt : a.toNat < space.length := by omega
   have at3 := hspace.at (k := .i64) Tryz.underlying26 sz5 (by decide) (i := a) (by omega) (by omega)
   have q3 : (Qj space)[a.toNat * 1]? = some (.int .u8 (Qeh space a.toNat)) := by
    rw [Zju, Qan, Zis hlt, Zit]; unfold Qeh; rw [List.getD_eq_getElem?_getD, Zis hlt]; rfl
   have q3' : (Qj space)[a.toNat]? = some (.int .u8 (Qeh space a.toNat)) := by rw [<- q3, Zju]
   generalize hsv : Qeh space a.toNat = sa at *
   cases i with
   | zero =>
     have c0 : decide (((0 : Nat) : Int) > 0) = false := rfl
     have hb0 : before own 0 = none := rfl
     simp only [hb0] at hS
     simp only [Qn, Qg, Qf, Ql, Qa, Qc, nov, gd, rho, Qd, wr, Nat.reduceAdd, Nat.reduceSub, if_true, if_false, reduceIte, reduceCtorEq, Qi, Int.reduceBEq, Int.reduceBNe, Int.reduceLT, Int.reduceLE, ↓Qh, c1, at1, q1, q1', hA', hB', c0, at3, q3, q3', g2, g11, rd3, rd5, ta, new, Qb, hset, Qu, Qs, Qp, Nat.reduceLT, Nat.reduceEqDiff]
     repeat' ((first | refine W.guardF ?_ ?_ | refine W.guardT ?_ ?_ | refine W.guardXF ?_ ?_ | refine W.guardXT ?_ ?_ | refine W.ite ?_ ?_ | refine W.opsK1 (by kernel_rfl) ?_) <;> intro h <;> simp only [Qn, Qg, Qf, Ql, Qa, Qc, nov, gd, rho, Qd, wr, Nat.reduceAdd, Nat.reduceSub, if_true, if_false, reduceIte, reduceCtorEq, Qi, Int.reduceBEq, Int.reduceBNe, Int.reduceLT, Int.reduceLE, ↓Qh, h, c0, at3, q3, q3', g2, g11, rd3, rd5, ta, new, Qb, hset, Qu, Qs, Qp, Nat.reduceLT, Nat.reduceEqDiff])
     all_goals first
      | (refine W.done ?_
         simp only [Qn, Qg, Qf, Ql, Qa, Qc, nov, gd, rho, Qd, wr, Nat.reduceAdd, Nat.reduceSub, if_true, if_false, reduceIte, reduceCtorEq, Qi, Int.reduceBEq, Int.reduceBNe, Int.reduceLT, Int.reduceLE, ↓Qh]
         refine W.done (Zv.ret rfl rfl ?_)
         rw [<- hnb, hS]
         simp only [*, Jt, if_true, if_false]
         try rfl)
      | (simp only [Qn, Qg, Qf, Ql, Qa, Qc, nov, gd, rho, Qd, wr, Nat.reduceAdd, Nat.reduceSub, if_true, if_false, reduceIte, reduceCtorEq, Qi, Int.reduceBEq, Int.reduceBNe, Int.reduceLT, Int.reduceLE, ↓Qh, w1]
         refine W.done ⟨0 + 1, rfl, rfl, ⟨by omega, ?_⟩, by omega⟩
         rw [hS, hnx]
         simp only [*, Jt, if_true, if_false]
         try rfl)
   | succ k =>
     have c0 : decide (((k + 1 : Nat) : Int) > 0) = true := Zlq (by omega)
     have wk : (IntKind.i64).wrap (((k + 1 : Nat) : Int) - 1) = ((k : Nat) : Int) := by rw [wrap_i64] <;> omega
     have hk : k < own.length := by omega
     have at2 := hown.at (k := .i64) Tryz.underlying32 sz3 (by decide) (i := (k : Int)) (by omega) (by omega)
     have q2 : (Q3 own)[(k : Int).toNat * 1]? = some (.int .i64 own[k]) := by simp [hk, Q3]
     have q2' : (Q3 own)[(k : Int).toNat]? = some (.int .i64 own[k]) := by simp [hk, Q3]
     have hb : before own (k + 1) = some own[k] := by simp only [before, Zis hk]
     simp only [hb] at hS
     simp only [Qn, Qg, Qf, Ql, Qa, Qc, nov, gd, rho, Qd, wr, Nat.reduceAdd, Nat.reduceSub, if_true, if_false, reduceIte, reduceCtorEq, Qi, Int.reduceBEq, Int.reduceBNe, Int.reduceLT, Int.reduceLE, ↓Qh, c1, at1, q1, q1', hA', hB', c0, wk, at2, q2, q2', at3, q3, q3', g2, g11, rd3, rd5, ta, new, Qb, hset, Qu, Qs, Qp, Nat.reduceLT, Nat.reduceEqDiff]
     repeat' ((first | refine W.guardF ?_ ?_ | refine W.guardT ?_ ?_ | refine W.guardXF ?_ ?_ | refine W.guardXT ?_ ?_ | refine W.ite ?_ ?_ | refine W.opsK1 (by kernel_rfl) ?_) <;> intro h <;> simp only [Qn, Qg, Qf, Ql, Qa, Qc, nov, gd, rho, Qd, wr, Nat.reduceAdd, Nat.reduceSub, if_true, if_false, reduceIte, reduceCtorEq, Qi, Int.reduceBEq, Int.reduceBNe, Int.reduceLT, Int.reduceLE, ↓Qh, h, c0, wk, at2, q2, q2', at3, q3, q3', g2, g11, rd3, rd5, ta, new, Qb, hset, Qu, Qs, Qp, Nat.reduceLT, Nat.reduceEqDiff])
     all_goals first
      | (refine W.done ?_
         simp only [Qn, Qg, Qf, Ql, Qa, Qc, nov, gd, rho, Qd, wr, Nat.reduceAdd, Nat.reduceSub, if_true, if_false, reduceIte, reduceCtorEq, Qi, Int.reduceBEq, Int.reduceBNe, Int.reduceLT, Int.reduceLE, ↓Qh]
         refine W.done (Zv.ret rfl rfl ?_)
         rw [<- hnb, hS]
         simp only [*, Jt, if_true, if_false]
         try rfl)
      | (simp only [Qn, Qg, Qf, Ql, Qa, Qc, nov, gd, rho, Qd, wr, Nat.reduceAdd, Nat.reduceSub, if_true, if_false, reduceIte, reduceCtorEq, Qi, Int.reduceBEq, Int.reduceBNe, Int.reduceLT, Int.reduceLE, ↓Qh, w1]
         refine W.done ⟨k + 1 + 1, rfl, rfl, ⟨by omega, ?_⟩, by omega⟩
         rw [hS, hnx]
         simp only [*, Jt, if_true, if_false]
         try rfl)
 . have c1 : decide ((i : Int) < own.length) = false := Zlr (by omega)
   have hA : Qgs (Qeh space) none own = true := by
    rw [<- hR, Zkz (by omega)]
    cases hb : before own i <;> rfl
   rw [hA, if_pos rfl] at hnb
   simp only [Qn, Qg, Qf, Ql, Qa, Qc, nov, gd, rho, Qd, wr, Nat.reduceAdd, Nat.reduceSub, if_true, if_false, reduceIte, reduceCtorEq, Qi, Int.reduceBEq, Int.reduceBNe, Int.reduceLT, Int.reduceLE, ↓Qh, c1]
   refine W.done ?_
   obtain ⟨m, rfl, hm⟩ := (Qu6 lv lines ⟨lcs, hlc, hlv⟩).op (by rfl) (Qt (hlv.frz _) rfl)
   have hm1 : ∀ s H, _ := fun s H => hm 48 0 s H rfl
   obtain ⟨m, rfl, hm⟩ := (Qm0 kv keys ⟨kcs, hkc, hkv⟩ f4 f6 24 (.inl rfl)).op (by rfl) (Qt (hkv.frz _) rfl)
   have hm2 : ∀ s H, _ := fun s H => hm 48 0 s H rfl
   obtain ⟨m, rfl, hm⟩ := (Qm0 ov loaded ⟨ocs, hoc, hov⟩ f5 f7 16 (.inr rfl)).op (by rfl) (Qt (hov.frz _) rfl)
   have hm3 : ∀ s H, _ := fun s H => hm 48 0 s H rfl
   generalize Qbl lines = ml at *
   generalize Qb9 keys 24 = mk at *
   generalize Qb9 loaded 16 = mo at *
   have len2 := hcv.len Tryz.underlying34
   have hcont := Qst lv lines lcs hlc hlv f2
   simp only [Qn, Qg, Qf, Ql, Qa, Qc, nov, gd, rho, Qd, wr, Nat.reduceAdd, Nat.reduceSub, if_true, if_false, reduceIte, reduceCtorEq, Qi, Int.reduceBEq, Int.reduceBNe, Int.reduceLT, Int.reduceLE, ↓Qh, hm1, hm2, hm3, g12, g13, g14, g16, g17, rd3, Qoi, rd22, ta, new, Qb, hset, Qu, Qs, Qp, Nat.reduceLT, Nat.reduceEqDiff]
   repeat' ((first | refine W.guardF ?_ ?_ | refine W.guardT ?_ ?_ | refine W.guardXF ?_ ?_ | refine W.guardXT ?_ ?_ | refine W.ite ?_ ?_ | refine W.opsK1 (by kernel_rfl) ?_) <;> intro h <;> simp only [Qn, Qg, Qf, Ql, Qa, Qc, nov, gd, rho, Qd, wr, Nat.reduceAdd, Nat.reduceSub, if_true, if_false, reduceIte, reduceCtorEq, Qi, Int.reduceBEq, Int.reduceBNe, Int.reduceLT, Int.reduceLE, ↓Qh, h, hm1, hm2, hm3, g12, g13, g14, g15, g16, g17, rd3, Qoi, rd22, Qvk, len2, ta, new, Qb, hset, Qu, Qs, Qp, Nat.reduceLT, Nat.reduceEqDiff])
   all_goals first
    | (refine W.done (Zv.ret rfl rfl ?_)
       rw [<- hnb, hMB']
       simp only [*, Jt, if_true, if_false]
       try rfl)
    | skip
   have hmb : mb = false := by rw [hMB']; simp only [*, Bool.or_false, Zku]
   rw [hmb, if_neg (by decide)] at hnb
   clear hm1 hm2 hm3 hR hA hMB' len
   refine W.ul ?_
   refine W.loop (fun (i : Nat) t H => ∃ F : AM.Frame, Bl [1, 108, 109, 110] t 0 = Qql (.ptr 0 1 0) cv (.int .i64 changes.length) (.int .i64 i) /\ i <= changes.length /\ H = [F] /\ (F = [(1, .cells pc)] \/ ∃ x, F = [(1, .cells pc), (6, .cells x)]) /\ Qn3 lines (before changes i) (changes.drop i) = Qn3 lines none changes) (fun i => changes.length - i) ?_ 0 ⟨_, rfl, by omega, rfl, .inl rfl, rfl⟩ rfl
   clear h hi c1
   rintro i t H ⟨F, ht, hi, rfl, hF, hR⟩
   have hd : ([F] : Heap).modify 0 (J7 fun s => [6].contains s) = [[(1, .cells pc)]] := by
    rcases hF with rfl | ⟨x, rfl⟩ <;> rfl
   have vr : cv.refs (fun f s => f == 0 && [6].contains s) = false := hcv.noRefs _
   refine ⟨_, _, Ye (kt := [1, 108, 109, 110]) (ds := [6]) rfl ?_ ?_, ?_⟩
   . rw [ht]
     simp only [Qql, Qx, V.refs, vr]; simp
   . rw [hd]
     simp only [Zi, Zn, O.refs, gr]; simp
   rw [ht, hd]
   simp only [Qql]
   by_cases h : i < changes.length
   . have c1 : decide ((i : Int) < changes.length) = true := Zlq (by omega)
     have at1 := hcv.at (k := .i64) Tryz.underlying34 Qpj (by decide) (i := (i : Int)) (by omega) (by omega)
     obtain ⟨dv, hdv, ld⟩ := hcc.ld h
     have sdv : dv.scalar = true := by obtain ⟨_, hq⟩ := hdv; exact Qcq hq
     have ld1 : ∀ g, ldV Tryz.prog 107 g (.iptr ccs ((i : Int).toNat * 12)) = _ := ld
     have w1 : (IntKind.i64).wrap ((i : Int) + 1) = ((i + 1 : Nat) : Int) := by rw [wrap_i64] <;> omega
     have hS : Qn3 lines (before changes i) (changes.drop i) = if (match Bf lines changes[i].set with | none => true | some l => l.kind != 1) || (!(Qc3 changes[i]) || (match before changes i with | some q => decide (Qji q changes[i] >= 0) | none => false)) then false else Qn3 lines (before changes (i + 1)) (changes.drop (i + 1)) := by
      rw [Zlh h]
      have e : before changes (i + 1) = some changes[i] := by simp only [before, Zis h]
      rw [e]; rfl
     rw [hR] at hS
     obtain ⟨m, rfl, hm⟩ := (Qrx changes[i] dv hdv).op (by rfl) (Qt (Qbx hdv) rfl)
     have hmc : ∀ s H, _ := fun s H => hm 48 0 s H rfl
     obtain ⟨m, rfl, hm⟩ := (Qsb lv lines lcs hlc hlv f2 changes[i].set).op (by rfl) (Qt (hlv.frz _) rfl)
     have hm1 : ∀ s H, _ := fun s H => hm 48 0 s H rfl
     have hor : ∀ (q : Ji) (qv : V), Qgm qv q.n -> ∀ s H, callOp Qz (Q5 Tryz.prog Qz) 48 0 s 84 [.agg (Jd q qv), .agg (Jd changes[i] dv)] H = some (.ret (.int .i64 (Qji q changes[i])), H) := fun q qv hqv s H => by
      obtain ⟨m, rfl, hm⟩ := (Q2g q changes[i] qv dv hqv hdv).op (by rfl) (Qt (Qbx hqv) (Qt (Qbx hdv) rfl))
      exact hm 48 0 s H rfl
     generalize hnx : Qn3 lines (before changes (i + 1)) (changes.drop (i + 1)) = nx at hS
     generalize hoi : Qji = oi at *
     generalize Qc3 changes[i] = mc at *
     generalize hp : changes[i] = c at *
     simp only [Jd] at ld1 hmc
     cases hO : Qco lines c.set with
     | none =>
       have hLf : Bf lines c.set = none := by simp only [Bf, hO]
       simp only [hO] at hm1
       simp only [hLf, Bool.true_or, if_true] at hS
       simp only [Qn, Qg, Qf, Ql, Qa, Qc, nov, gd, rho, Qd, wr, Nat.reduceAdd, Nat.reduceSub, if_true, if_false, reduceIte, reduceCtorEq, Qi, Int.reduceBEq, Int.reduceBNe, Int.reduceLT, Int.reduceLE, ↓Qh, c1, at1, ld1, hm1, hmc, Kt, Qaz, Qa1, Qay, g12, g15, rd3, rd5, Qoi, Qvk, sdv, ta, new, Qb, hset, Qu, Qs, Qp, Nat.reduceLT, Nat.reduceEqDiff, splice, zerosN, Qo, Qr, Qk, V.pure, Nat.reduceMul, Nat.reduceLeDiff, Qq]
       repeat' ((first | refine W.guardF ?_ ?_ | refine W.guardT ?_ ?_ | refine W.guardXF ?_ ?_ | refine W.guardXT ?_ ?_ | refine W.ite ?_ ?_ | refine W.opsK1 (by kernel_rfl) ?_) <;> intro h <;> simp only [Qn, Qg, Qf, Ql, Qa, Qc, nov, gd, rho, Qd, wr, Nat.reduceAdd, Nat.reduceSub, if_true, if_false, reduceIte, reduceCtorEq, Qi, Int.reduceBEq, Int.reduceBNe, Int.reduceLT, Int.reduceLE, ↓Qh, h, c1, at1, ld1, hm1, hmc, Kt, Qaz, Qa1, Qay, g12, g15, rd3, rd5, Qoi, Qvk, sdv, ta, new, Qb, hset, Qu, Qs, Qp, Nat.reduceLT, Nat.reduceEqDiff, splice, zerosN, Qo, Qr, Qk, V.pure, Nat.reduceMul, Nat.reduceLeDiff, Qq])
       all_goals first
        | (refine W.done ?_
           simp only [Qn, Qg, Qf, Ql, Qa, Qc, nov, gd, rho, Qd, wr, Nat.reduceAdd, Nat.reduceSub, if_true, if_false, reduceIte, reduceCtorEq, Qi, Int.reduceBEq, Int.reduceBNe, Int.reduceLT, Int.reduceLE, ↓Qh]
           refine W.done (Zv.ret rfl rfl ?_)
           rw [<- hnb, hS]
           simp only [*, Jt, if_true, if_false]
           try rfl)
        | (simp only [Qn, Qg, Qf, Ql, Qa, Qc, nov, gd, rho, Qd, wr, Nat.reduceAdd, Nat.reduceSub, if_true, if_false, reduceIte, reduceCtorEq, Qi, Int.reduceBEq, Int.reduceBNe, Int.reduceLT, Int.reduceLE, ↓Qh, w1]
           refine W.done ⟨_, ⟨_, rfl, by omega, rfl, .inr ⟨_, rfl⟩, ?_⟩, by omega⟩
           rw [hS, hnx]
           simp only [*, Jt, if_true, if_false]
           try rfl)
     | some j =>
       have hj := Qjb hO
       obtain ⟨j1, j2, j3, j4⟩ := hlc.cells hj
       have hLf : Bf lines c.set = some lines[j] := by simp only [Bf, hO, Zis hj]
       simp only [hO] at hm1
       simp only [hLf] at hS
       generalize lines[j].kind = lk at *
       cases i with
       | zero =>
         have c0 : decide (((0 : Nat) : Int) > 0) = false := rfl
         have hb0 : before changes 0 = none := rfl
         simp only [hb0] at hS
         simp only [Qn, Qg, Qf, Ql, Qa, Qc, nov, gd, rho, Qd, wr, Nat.reduceAdd, Nat.reduceSub, if_true, if_false, reduceIte, reduceCtorEq, Qi, Int.reduceBEq, Int.reduceBNe, Int.reduceLT, Int.reduceLE, ↓Qh, c0, j2, c1, at1, ld1, hm1, hmc, Kt, Qaz, Qa1, Qay, g12, g15, rd3, rd5, Qoi, Qvk, sdv, ta, new, Qb, hset, Qu, Qs, Qp, Nat.reduceLT, Nat.reduceEqDiff, splice, zerosN, Qo, Qr, Qk, V.pure, Nat.reduceMul, Nat.reduceLeDiff, Qq]
         repeat' ((first | refine W.guardF ?_ ?_ | refine W.guardT ?_ ?_ | refine W.guardXF ?_ ?_ | refine W.guardXT ?_ ?_ | refine W.ite ?_ ?_ | refine W.opsK1 (by kernel_rfl) ?_) <;> intro h <;> simp only [Qn, Qg, Qf, Ql, Qa, Qc, nov, gd, rho, Qd, wr, Nat.reduceAdd, Nat.reduceSub, if_true, if_false, reduceIte, reduceCtorEq, Qi, Int.reduceBEq, Int.reduceBNe, Int.reduceLT, Int.reduceLE, ↓Qh, h, c0, j2, c1, at1, ld1, hm1, hmc, Kt, Qaz, Qa1, Qay, g12, g15, rd3, rd5, Qoi, Qvk, sdv, ta, new, Qb, hset, Qu, Qs, Qp, Nat.reduceLT, Nat.reduceEqDiff, splice, zerosN, Qo, Qr, Qk, V.pure, Nat.reduceMul, Nat.reduceLeDiff, Qq])
         all_goals first
          | (refine W.done ?_
             simp only [Qn, Qg, Qf, Ql, Qa, Qc, nov, gd, rho, Qd, wr, Nat.reduceAdd, Nat.reduceSub, if_true, if_false, reduceIte, reduceCtorEq, Qi, Int.reduceBEq, Int.reduceBNe, Int.reduceLT, Int.reduceLE, ↓Qh]
             refine W.done (Zv.ret rfl rfl ?_)
             rw [<- hnb, hS]
             simp only [*, Jt, if_true, if_false]
             try rfl)
          | (simp only [Qn, Qg, Qf, Ql, Qa, Qc, nov, gd, rho, Qd, wr, Nat.reduceAdd, Nat.reduceSub, if_true, if_false, reduceIte, reduceCtorEq, Qi, Int.reduceBEq, Int.reduceBNe, Int.reduceLT, Int.reduceLE, ↓Qh, w1]
             refine W.done ⟨_, ⟨_, rfl, by omega, rfl, .inr ⟨_, rfl⟩, ?_⟩, by omega⟩
             rw [hS, hnx]
             simp only [*, Jt, if_true, if_false]
             try rfl)
       | succ k =>
         have c0 : decide (((k + 1 : Nat) : Int) > 0) = true := Zlq (by omega)
         have wk : (IntKind.i64).wrap (((k + 1 : Nat) : Int) - 1) = ((k : Nat) : Int) := by rw [wrap_i64] <;> omega
         have hk : k < changes.length := by omega
         have at2 := hcv.at (k := .i64) Tryz.underlying34 Qpj (by decide) (i := (k : Int)) (by omega) (by omega)
         obtain ⟨qv, hqv, ldq⟩ := hcc.ld hk
         have ld2 : ∀ g, ldV Tryz.prog 107 g (.iptr ccs ((k : Int).toNat * 12)) = _ := ldq
         have hmo := hor _ qv hqv
         have hb : before changes (k + 1) = some changes[k] := by simp only [before, Zis hk]
         simp only [hb] at hS
         simp only [Jd] at ld2 hmo
         simp only [Qn, Qg, Qf, Ql, Qa, Qc, nov, gd, rho, Qd, wr, Nat.reduceAdd, Nat.reduceSub, if_true, if_false, reduceIte, reduceCtorEq, Qi, Int.reduceBEq, Int.reduceBNe, Int.reduceLT, Int.reduceLE, ↓Qh, c0, j2, c1, at1, ld1, hm1, hmc, Kt, Qaz, Qa1, Qay, g12, g15, rd3, rd5, Qoi, Qvk, sdv, ta, new, Qb, hset, Qu, Qs, Qp, Nat.reduceLT, Nat.reduceEqDiff, splice, zerosN, Qo, Qr, Qk, V.pure, Nat.reduceMul, Nat.reduceLeDiff, Qq]
         repeat' ((first | refine W.guardF ?_ ?_ | refine W.guardT ?_ ?_ | refine W.guardXF ?_ ?_ | refine W.guardXT ?_ ?_ | refine W.ite ?_ ?_ | refine W.opsK1 (by kernel_rfl) ?_) <;> intro h <;> simp only [Qn, Qg, Qf, Ql, Qa, Qc, nov, gd, rho, Qd, wr, Nat.reduceAdd, Nat.reduceSub, if_true, if_false, reduceIte, reduceCtorEq, Qi, Int.reduceBEq, Int.reduceBNe, Int.reduceLT, Int.reduceLE, ↓Qh, h, c0, wk, at2, ld2, hmo, j2, c1, at1, ld1, hm1, hmc, Kt, Qaz, Qa1, Qay, g12, g15, rd3, rd5, Qoi, Qvk, sdv, ta, new, Qb, hset, Qu, Qs, Qp, Nat.reduceLT, Nat.reduceEqDiff, splice, zerosN, Qo, Qr, Qk, V.pure, Nat.reduceMul, Nat.reduceLeDiff, Qq])
         all_goals first
          | (refine W.done ?_
             simp only [Qn, Qg, Qf, Ql, Qa, Qc, nov, gd, rho, Qd, wr, Nat.reduceAdd, Nat.reduceSub, if_true, if_false, reduceIte, reduceCtorEq, Qi, Int.reduceBEq, Int.reduceBNe, Int.reduceLT, Int.reduceLE, ↓Qh]
             refine W.done (Zv.ret rfl rfl ?_)
             rw [<- hnb, hS]
             simp only [*, Jt, if_true, if_false]
             try rfl)
          | (simp only [Qn, Qg, Qf, Ql, Qa, Qc, nov, gd, rho, Qd, wr, Nat.reduceAdd, Nat.reduceSub, if_true, if_false, reduceIte, reduceCtorEq, Qi, Int.reduceBEq, Int.reduceBNe, Int.reduceLT, Int.reduceLE, ↓Qh, w1]
             refine W.done ⟨_, ⟨_, rfl, by omega, rfl, .inr ⟨_, rfl⟩, ?_⟩, by omega⟩
             rw [hS, hnx]
             simp only [*, Jt, if_true, if_false]
             try rfl)
   . have c1 : decide ((i : Int) < changes.length) = false := Zlr (by omega)
     have hC : Qn3 lines none changes = true := by
      rw [<- hR, Zkz (by omega)]
      cases hb : before changes i <;> rfl
     rw [hC, if_pos rfl] at hnb
     simp only [Qn, Qg, Qf, Ql, Qa, Qc, nov, gd, rho, Qd, wr, Nat.reduceAdd, Nat.reduceSub, if_true, if_false, reduceIte, reduceCtorEq, Qi, Int.reduceBEq, Int.reduceBNe, Int.reduceLT, Int.reduceLE, ↓Qh, c1]
     refine W.done ?_
     obtain ⟨r, H', e1, e2, rfl⟩ := hcont [(1, .cells pc)] pc (by simp only [Zn, O.refs, gr]; rfl) rfl gl nid ng g17 g18
     subst e2
     have hcall : ∀ d, callOp Qz (Q5 Tryz.prog Qz) 48 0 d 85 [lv, .func (.func 86) [] [.ptr 0 1 0]] [[(1, .cells pc)]] = _ := fun d => Ko rfl rfl rfl e1
     simp only [Qn, Qg, Qf, Ql, Qa, Qc, nov, gd, rho, Qd, wr, Nat.reduceAdd, Nat.reduceSub, if_true, if_false, reduceIte, reduceCtorEq, Qi, Int.reduceBEq, Int.reduceBNe, Int.reduceLT, Int.reduceLE, ↓Qh, g12, Qoi, ta, new, Qb, hset, Qu, Qs, Qp, Nat.reduceLT, Nat.reduceEqDiff, hcall]
     refine W.ite ?_ ?_ <;> intro h2 <;> simp only [Qn, Qg, Qf, Ql, Qa, Qc, nov, gd, rho, Qd, wr, Nat.reduceAdd, Nat.reduceSub, if_true, if_false, reduceIte, reduceCtorEq, Qi, Int.reduceBEq, Int.reduceBNe, Int.reduceLT, Int.reduceLE, ↓Qh, ta, new, Qb, hset, Qu, Qs, Qp, Nat.reduceLT, Nat.reduceEqDiff]
     . refine W.done (Zv.ret rfl rfl ?_)
       rw [<- hnb, h2]; rfl
     . refine W.done (Zv.ret rfl rfl ?_)
       rw [<- hnb, h2]; rfl
end
section
set_option maxRecDepth 100000
open Go.AM Go.AM.BM
attribute [local irreducible] U W
theorem Y6 {v : V} {a : Int} (h : Qeg v = some a) : v = .int .i64 a := by
 unfold Qeg at h
 split at h
 . cases h; rfl
 . cases h
theorem Qag {v : V} {a : Int} (h : Qkz v = some a) : v = .int .u32 a := by
 unfold Qkz at h
 split at h
 . cases h; rfl
 . cases h
theorem Q2q {v : V} {a : Int} (h : u8D v = some a) : v = .int .u8 a := by
 unfold u8D at h
 split at h
 . cases h; rfl
 . cases h
theorem Qzy {v : V} {l : List UInt8} (h : Qwz v = some l) : Q1 v l /\ l.length <= 4096 := by
 unfold Qwz at h
 split at h
 case h_2 => cases h
 rename_i c hc
 split at h
 case isFalse => cases h
 rename_i hl
 cases h
 obtain ⟨l, rfl, h1, h2⟩ := Qf0 hc
 have e : (Qj l).map Q30 = l := by
  simp only [Qj, List.map_map]
  have : (Q30 ∘ fun b : UInt8 => V.int .u8 b.toNat) = id := by
   funext b
   show UInt8.ofNat b.toNat = b
   simp
  rw [this, List.map_id]
 have hl2 := Zkv hl
 rw [Yj] at hl2
 rw [e]
 exact ⟨h1, hl2⟩
theorem Q74 {v : V} {n : Nat} (h : lenD v = some n) : Qgm v n := by
 unfold lenD at h
 split at h
 . cases h; exact ⟨[], Zo.nil⟩
 . split at h
   case isFalse => cases h
   rename_i c m fl hc
   cases h
   simp only [Zjj] at hc
   exact ⟨c, Zo.mk (by rw [Zld hc.1, Zju])⟩
 . cases h
theorem Q6l {v : V} (h : low2 v = true) : ∃ b : UInt8, v = .int .u8 b.toNat /\ b <= 2 := by
 unfold low2 at h
 split at h
 . rename_i n
   have hn := Zkv h
   have e : (UInt8.ofNat n).toNat = n := by simp; omega
   refine ⟨UInt8.ofNat n, by rw [e]; rfl, ?_⟩
   rw [UInt8.le_iff_toNat_le, e]; exact hn
 . cases h
theorem Qyu : ∀ {c : List V}, c.all low2 = true -> ∃ l : List UInt8, c = Qj l /\ l.all (fun b => b <= 2) = true
 | [], _ => ⟨[], rfl, rfl⟩
 | v :: r, h => by
   simp only [List.all_cons, Zjj] at h
   obtain ⟨b, rfl, hb⟩ := Q6l h.1
   obtain ⟨l, rfl, hl⟩ := Qyu h.2
   exact ⟨b :: l, rfl, by simp only [List.all_cons, Zjj]; exact ⟨by simpa using hb, hl⟩⟩
theorem is1_ok {b : UInt8} (h : is1 (.int .u8 b.toNat) = true) : b = 1 := by
 have h1 : Nat.beq b.toNat 1 = true := h
 have h2 := Zld h1
 exact UInt8.toNat_inj.1 h2
theorem Qy3 : ∀ {l : List UInt8}, (Qj l).all is1 = true -> l.count 1 = l.length
 | [], _ => rfl
 | b :: r, h => by
   have h' : (is1 (.int .u8 b.toNat) && (Qj r).all is1) = true := h
   simp only [Zjj] at h'
   rw [is1_ok h'.1, List.count_cons_self, Qy3 h'.2, Zja]
theorem spV_ok (l : List UInt8) (i : Nat) : spV (Qj l) i = Qeh l i := by
 show byteI ((Qj l).getD i .bad) = _
 rw [List.getD_eq_getElem?_getD, Qan]
 unfold Qeh
 rw [List.getD_eq_getElem?_getD]
 cases l[i]? <;> rfl
theorem Q6r {v : V} {t : List V × Bool} (h : Qw7 v = some t) : ∃ l : List UInt8, t.1 = Qj l /\ Q1 v l /\ B3 l = t.2 := by
 unfold Qw7 at h
 split at h
 . cases h; exact ⟨[], rfl, Zo.nil, rfl⟩
 . split at h
   case isFalse => cases h
   rename_i c n fl hc
   cases h
   simp only [Zjj] at hc
   obtain ⟨h1, h2, h3, h4⟩ := hc
   obtain ⟨l, rfl, hl⟩ := Qyu h3
   have e1 := Zld h1
   have e2 := Zld h2
   rw [Yj] at e2
   refine ⟨l, rfl, ?_, ?_⟩
   . rw [e1]
     have := Q1.mk l fl
     rwa [e2] at this
   . rw [Qdq] at h4
     have h5 := Qy3 h4
     rw [Zk8, e2] at h5
     have h5 : (l.take 12).count 1 = 12 := h5
     simp only [B3, e2, hl, h5]; rfl
 . cases h
theorem Qiy {α : Type} {f : List V -> Option (List α)} {v : V} {l : List α} (h : slD f v = some l) : ∃ cs, (v = .nS /\ l = [] /\ cs = [] \/ ∃ fl, v = .iS cs l.length fl /\ f cs = some l) /\ l.length <= 900 := by
 unfold slD at h
 split at h
 . cases h; exact ⟨[], .inl ⟨rfl, rfl, rfl⟩, by simp⟩
 . rename_i c n fl
   split at h
   case h_2 => cases h
   rename_i l' hl
   split at h
   case isFalse => cases h
   rename_i hc
   cases h
   simp only [Zjj] at hc
   have e := Zld hc.1
   have e2 := Zkv hc.2
   subst e
   exact ⟨c, .inr ⟨fl, rfl, hl⟩, e2⟩
 . cases h
theorem Qk6 {a b c d e : V} {p : Ke} (h : ptrD a b c d e = some p) : [a, b, c, d, e] = p.cells := by
 simp only [ptrD, Zj9] at h
 obtain ⟨_, h1, _, h2, _, h3, _, h4, _, h5, h6⟩ := h
 cases h6
 rw [Y6 h1, Qag h2, Qag h3, Qag h4, Qag h5]; rfl
theorem Qt8 : ∀ {cs : List V} {l : List Int}, Qyv cs = some l -> cs = Q3 l
 | [], l, h => by cases h; rfl
 | v :: r, l, h => by
   simp only [Qyv, Zj9] at h
   obtain ⟨a, h1, l', h2, h3⟩ := h
   cases h3
   rw [Y6 h1, Qt8 h2]; rfl
theorem Qvc : ∀ {cs : List V} {l : List (List UInt8)}, Qp1 cs = some l -> Qic cs l /\ ∀ k ∈ l, k.length <= 4096
 | [], l, h => by cases h; exact ⟨rfl, by simp⟩
 | v :: r, l, h => by
   simp only [Qp1, Zj9] at h
   obtain ⟨a, h1, l', h2, h3⟩ := h
   cases h3
   obtain ⟨h4, h5⟩ := Qzy h1
   obtain ⟨h6, h7⟩ := Qvc h2
   exact ⟨⟨v, r, rfl, h4, h6⟩, by simpa using ⟨h5, h7⟩⟩
theorem Qvp : ∀ {cs : List V} {l : List Ke}, Qtp cs = some l -> cs = Qdb l
 | [], l, h => by cases h; rfl
 | a :: b :: c :: d :: e :: r, l, h => by
   simp only [Qtp, Zj9] at h
   obtain ⟨p, h1, l', h2, h3⟩ := h
   cases h3
   have e1 := Qk6 h1
   have e2 := Qvp h2
   show [a, b, c, d, e] ++ r = p.cells ++ Qdb l'
   rw [e1, e2]
 | [_], l, h => by cases h
 | [_, _], l, h => by cases h
 | [_, _, _], l, h => by cases h
 | [_, _, _, _], l, h => by cases h
theorem Q2o {v : V} {l : List Ke} (h : slD Qtp v = some l) : Qdv v l := by
 obtain ⟨cs, h1 | ⟨fl, rfl, h2⟩, h3⟩ := Qiy h
 . obtain ⟨rfl, rfl, rfl⟩ := h1
   exact Zo.nil
 . rw [Qvp h2]
   exact Zo.mk (Qpf l)
theorem Qp3 : ∀ (n : Nat) {cs : List V} {l : List Jn}, cs.length <= n -> Qmb cs = some l -> LinesC cs l
 | n, [], l, _, h => by
   simp only [Qmb, Zlm] at h
   subst h; rfl
 | 0, a :: r, l, hn, h => by simp at hn
 | n + 1, a :: r, l, hn, h => by
   unfold Qmb at h
   split at h
   . cases h; rename_i e; cases e
   . rename_i a' b c d e f g hh i j k ll m r' heq
     cases heq
     simp only [Zj9] at h
     obtain ⟨_, h1, _, h2, _, h3, _, h4, _, h5, _, h6, _, h7, p, h8, q, h9, l', h10, h11⟩ := h
     cases h11
     have e8 := Qk6 h8
     rw [Y6 h1, Q2q h2, Y6 h3, Y6 h4, Qag h5, Qag h6, Y6 h7]
     have e9 : hh = .int .i64 p.at_ /\ i = .int .u32 p.birth /\ j = .int .u32 p.iv /\ k = .int .u32 p.tag /\ ll = .int .u32 p.sum := by
      simp only [Ke.cells, List.cons.injEq, and_true] at e8
      exact e8
     obtain ⟨rfl, rfl, rfl, rfl, rfl⟩ := e9
     exact ⟨m, r', rfl, Q2o h9, Qp3 n (by simp only [Zja] at hn; omega) h10⟩
   . cases h
theorem Qfe : ∀ (n : Nat) {cs : List V} {l : List Ji}, cs.length <= n -> Qc8 cs = some l -> ChangesC cs l
 | n, [], l, _, h => by
   simp only [Qc8, Zlm] at h
   subst h; rfl
 | 0, a :: r, l, hn, h => by simp at hn
 | n + 1, a :: r, l, hn, h => by
   unfold Qc8 at h
   split at h
   . cases h; rename_i e; cases e
   . rename_i a' b c d e f g hh i j k ll r' heq
     cases heq
     simp only [Zj9] at h
     obtain ⟨_, h1, _, h2, _, h3, _, h4, _, h5, _, h6, q, h7, p, h8, l', h10, h11⟩ := h
     cases h11
     have e8 := Qk6 h8
     rw [Y6 h1, Y6 h2, Y6 h3, Q2q h4, Y6 h5, Y6 h6]
     have e9 : hh = .int .i64 p.at_ /\ i = .int .u32 p.birth /\ j = .int .u32 p.iv /\ k = .int .u32 p.tag /\ ll = .int .u32 p.sum := by
      simp only [Ke.cells, List.cons.injEq, and_true] at e8
      exact e8
     obtain ⟨rfl, rfl, rfl, rfl, rfl⟩ := e9
     exact ⟨g, r', rfl, Q74 h7, Qfe n (by simp only [Zja] at hn; omega) h10⟩
   . cases h
theorem frz_i {k : IntKind} {n : Int} {g : Get} {m : Nat} {v : V} (h : frz g m v = some (.int k n)) : v = .int k n := by
 cases m with
 | zero => cases h
 | succ m =>
   cases v <;> simp only [frz] at h <;> first
    | exact Option.some.inj h
    | (simp only [Zj8, reduceCtorEq, and_false, exists_false] at h)
    | (split at h <;> first
        | (split at h <;> simp only [Zj8, reduceCtorEq, and_false, exists_false] at h)
        | (simp only [Zj8, Zlm, reduceCtorEq, and_false, exists_false] at h)
        | cases h)
    | cases h
theorem frzN_i {k : IntKind} {n : Int} {g : Get} {m : Nat} {v : V} (h : frzN g m v = some (.int k n)) : v = .int k n := by
 cases m with
 | zero => cases h
 | succ m =>
   cases v <;> simp only [frzN] at h <;> first
    | exact Option.some.inj h
    | (simp only [Zj8, reduceCtorEq, and_false, exists_false] at h)
    | (split at h <;> first
        | (split at h <;> simp only [Zj8, reduceCtorEq, and_false, exists_false] at h)
        | (simp only [Zj8, Zlm, reduceCtorEq, and_false, exists_false] at h)
        | cases h)
    | cases h
theorem Q42 {bv wv sv : V} {r : List V} {p : Qj6} (h : Q4a (bv :: wv :: sv :: r) = some p) : ∃ mv lv kv ov cv, bv :: wv :: sv :: r = Q33 bv wv sv mv lv kv ov cv p /\ Ba mv p.own /\ Qgd lv p.lines /\ Qi5 kv p.keys /\ Qi5 ov p.loaded /\ Qda cv p.changes /\
 (p.own.length <= 1000000 /\ p.lines.length <= 1000000 /\ p.changes.length <= 1000000 /\ p.keys.length <= 1000 /\ p.loaded.length <= 1000 /\ (∀ k ∈ p.keys, k.length <= 1000000) /\ (∀ k ∈ p.loaded, k.length <= 1000000)) := by
 unfold Q4a at h
 split at h
 case h_2 => cases h
 rename_i b' w' s' e c g ra rb rc rd re mv lv kv ov cv lg ni ng heq
 cases heq
 simp only [Zj9] at h
 obtain ⟨_, h2, _, h3, _, h4, p, h5, m, h6, ls, h7, ks, h8, os, h9, cs, h10, _, h11, _, h12, _, h13, h14⟩ := h
 cases h14
 have e5 := Qk6 h5
 have e9 : ra = .int .i64 p.at_ /\ rb = .int .u32 p.birth /\ rc = .int .u32 p.iv /\ rd = .int .u32 p.tag /\ re = .int .u32 p.sum := by
  simp only [Ke.cells, List.cons.injEq, and_true] at e5
  exact e5
 obtain ⟨rfl, rfl, rfl, rfl, rfl⟩ := e9
 rw [Qag h2, Qag h3, Qag h4, Y6 h11, Y6 h12, Qag h13]
 have i6 : Ba mv m /\ m.length <= 900 := by
  obtain ⟨cs, h1 | ⟨fl, rfl, h2⟩, h3⟩ := Qiy h6
  . obtain ⟨rfl, rfl, rfl⟩ := h1
    exact ⟨Zo.nil, h3⟩
  . rw [Qt8 h2]; exact ⟨Ba.mk _ _, h3⟩
 have i7 : Qgd lv ls /\ ls.length <= 900 := by
  obtain ⟨cs, h1 | ⟨fl, rfl, h2⟩, h3⟩ := Qiy h7
  . obtain ⟨rfl, rfl, rfl⟩ := h1
    exact ⟨⟨[], rfl, Zo.nil⟩, h3⟩
  . have hc := Qp3 _ (Zix _) h2
    exact ⟨⟨cs, hc, Zo.mk hc.len⟩, h3⟩
 have iR : ∀ {x : V} {l : List (List UInt8)}, slD Qp1 x = some l -> Qi5 x l /\ l.length <= 900 /\ ∀ k ∈ l, k.length <= 1000000 := by
  intro x l hx
  obtain ⟨cs, h1 | ⟨fl, rfl, h2⟩, h3⟩ := Qiy hx
  . obtain ⟨rfl, rfl, rfl⟩ := h1
    exact ⟨⟨[], rfl, Zo.nil⟩, h3, by simp⟩
  . obtain ⟨hc, hb⟩ := Qvc h2
    exact ⟨⟨cs, hc, Zo.mk (by rw [hc.len, Zju])⟩, h3, fun k hk => Ziy (hb k hk) (by decide)⟩
 have i10 : Qda cv cs /\ cs.length <= 900 := by
  obtain ⟨cs, h1 | ⟨fl, rfl, h2⟩, h3⟩ := Qiy h10
  . obtain ⟨rfl, rfl, rfl⟩ := h1
    exact ⟨⟨[], rfl, Zo.nil⟩, h3⟩
  . have hc := Qfe _ (Zix _) h2
    exact ⟨⟨_, hc, Zo.mk hc.len⟩, h3⟩
 obtain ⟨k1, k2, k3⟩ := iR h8
 obtain ⟨o1, o2, o3⟩ := iR h9
 exact ⟨mv, lv, kv, ov, cv, rfl, i6.1, i7.1, k1, o1, i10.1, by simp only; omega, by simp only; omega, by simp only; omega, by simp only; omega, by simp only; omega, k3, o3⟩
theorem Q4z {v : V} (h : isI v = true) : (∀ g m, frz g (m + 1) v = some v) /\ (∀ q, v.refs q = false) /\ v.scalar = true := by
 cases v <;> first | exact ⟨fun _ _ => rfl, fun _ => rfl, rfl⟩ | cases h
theorem Q7d (ys : List V) (v : V) (h : kTxg ys = some v) : FzN Tryz.prog Qz 48 ys v := by
 unfold kTxg at h
 split at h
 case h_2 => cases h
 rename_i bv wv sv r
 split at h
 case isFalse => cases h
 rename_i hi
 simp only [Zjj] at hi
 split at h
 case h_2 => cases h
 rename_i d hd
 simp only [Zj9] at h
 obtain ⟨t, h0, p, h1, h2⟩ := h
 cases h2
 obtain ⟨l, t1, t2, t3⟩ := Q6r h0
 have t4 : spV t.1 = Qeh l := by rw [t1]; funext i; exact spV_ok l i
 rw [t4, <- t3]
 obtain ⟨b1, b2, b3⟩ := Q4z hi.1
 obtain ⟨w1, w2, w3⟩ := Q4z hi.2
 obtain ⟨v0, H0, e1, e2⟩ := Qqc _ _ hd
 have e3 := frzN_i e2
 subst e3
 obtain ⟨mv, lv, kv, ov, cv, e4, q2, q3, q4, q5, q6, q7⟩ := Q42 h1
 rw [e4]
 have hp : Q24 bv wv sv mv lv kv ov cv d l p := {
  dev := ⟨_, _, _, e1, rfl, rfl⟩
  frz := by
   show Option.map V.agg (Zc (frz _ 11) [bv, wv]) = _
   rw [Qt (b1 _ _) (Qt (w1 _ _) rfl)]; rfl
  frz0 := fun g m => ⟨b1 _ _, w1 _ _⟩
  nr := fun q => ⟨b2 q, w2 q⟩
  sb := b3
  sw := w3
  space := t2, own := q2, lines := q3, keys := q4, loaded := q5, changes := q6, fit := q7 }
 obtain ⟨x, H', y, f1, f2, rfl⟩ := Q17 hp
 have f3 := frz_i f2
 subst f3
 exact ⟨_, _, f1, rfl⟩
end
end Go.Proofs.YtafhcdagifopeaaGreatDoor
