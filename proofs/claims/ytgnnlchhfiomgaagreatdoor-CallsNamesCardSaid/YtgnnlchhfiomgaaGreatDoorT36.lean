/- This file holds in one the texts E10, E11, E12; each says at its head what it proves. -/
import Derived.Test.YtgnnlchhfiomgaaGreatDoorT35
set_option linter.unusedSimpArgs false
set_option linter.unusedVariables false
namespace Go.Proofs.YtgnnlchhfiomgaaGreatDoor
section
set_option maxRecDepth 100000
open Go.AM
attribute [local irreducible] U W
theorem Qpa (bv wv sv : V) (d : Int) (hd : Fz Tryz.prog Qz 79 [.agg [bv, wv]] fun x => x = .int .i64 d) (hf : frz (fun _ _ => none) depth (.agg [bv, wv]) = some (.agg [bv, wv])) (sb : bv.scalar = true) (sw : wv.scalar = true)
 (space : List UInt8) (hs : Q1 sv space) (epoch count : Int) :
 Fz Tryz.prog Qz 19 [.agg [bv, wv, sv, .int .u32 epoch, .int .u32 count]] fun x => x = .int .i64 (okE (Qdv d (Qad space) epoch count)) := by
 refine Jt Tryz.func19 rfl ?_
 have ss := Qcw hs
 obtain ⟨m, rfl, hm⟩ := hd.op (by rfl) (Qt hf rfl)
 have hm1 : ∀ s H, _ := fun s H => hm 19 0 s H rfl
 obtain ⟨m, rfl, hm⟩ := (Qo3 sv space hs).op (by rfl) (Qt (hs.frz _) rfl)
 have hm2 : ∀ s H, _ := fun s H => hm 19 0 s H rfl
 simp only [okE_if] at hm2
 simp only [Qn, Qf, Qg, Ql, Qa, Qc, nov, gd, rho, Qe, wr, simprocAttr, Qi, ↓Qh, Tryz.ntmps19, ta, new, Qb, hset, Qu, Qs, Qp, splice, zerosN, Qo, Qq, Qk, V.pure, Qr, sb, sw, ss, hm1, hm2, Kt]
 repeat' ((first | refine W.guardF ?_ ?_ | refine W.guardT ?_ ?_ | refine W.guardXF ?_ ?_ | refine W.guardXT ?_ ?_ | refine W.ite ?_ ?_ | refine W.opsK1 (by kernel_rfl) ?_) <;> intro h <;> simp only [Qn, Qf, Qg, Ql, Qa, Qc, nov, gd, rho, Qe, wr, simprocAttr, Qi, ↓Qh, h, ta, new, Qb, hset, Qu, Qs, Qp, splice, zerosN, Qo, Qq, Qk, V.pure, Qr, sb, sw, ss, hm1, hm2, Kt])
 all_goals refine W.done (Zu.ret rfl rfl ?_)
 all_goals first | rfl | (simp only [okE, Qdv, *, Js, if_true, if_false]; try rfl)
/-! ### Numbers given out -/
theorem Qz0 (F : AM.Frame) (pc : List V) (hw : Zo (fun f _ => Nat.ble 1 f) F = true) (hF : Qu F 1 = some (.cells pc)) (hpl : pc.length = 19) (nid ng : Int) (h17 : pc[17]? = some (.int .i64 nid)) (h18 : pc[18]? = some (.int .u32 ng)) (l : Jj) (dv : V) (hd : Qd4 dv l.dead) :
 CW Tryz.prog Qz 27 [.agg (Ky l dv), .ptr 0 1 0] [F, [], []] fun r H => r = .ret (.bool (J7 nid ng l)) /\ H = [F, [], []] := by
 refine Xr Tryz.func27 rfl ?_
 have sc := Qcw hd
 obtain ⟨id, kind, owner, prev, txg, guid, key, root, dead⟩ := l
 obtain ⟨ra, rb, rc, rd, re⟩ := root
 simp only [Ky]
 simp only [Qn, Qf, Qg, Ql, Qa, Qc, nov, gd, rho, Qe, wr, simprocAttr, Qi, ↓Qh, Tryz.ntmps27, ta, new, Qb, hset, Qu, Qs, Qp, splice, zerosN, Qo, Qq, Qk, V.pure, Qr, Zj9, Zlg, Zle, Zlh, sc, hF, h17, h18]
 repeat' ((first | refine W.guardF ?_ ?_ | refine W.guardT ?_ ?_ | refine W.guardXF ?_ ?_ | refine W.guardXT ?_ ?_ | refine W.ite ?_ ?_ | refine W.opsK1 (by kernel_rfl) ?_) <;> intro h <;> simp only [Qn, Qf, Qg, Ql, Qa, Qc, nov, gd, rho, Qe, wr, simprocAttr, Qi, ↓Qh, h, ta, new, Qb, hset, Qu, Qs, Qp, sc, hF, h17, h18])
 all_goals refine W.done (End.ret (v := .bool (J7 nid ng ⟨id, kind, owner, prev, txg, guid, key, ⟨ra, rb, rc, rd, re⟩, dead⟩)) ?_ ⟨rfl, pop3 rfl hw⟩)
 all_goals simp only [J7, *, Zlq, Zmc, Bool.true_or, Bool.or_true, Zls, Bool.or_false]
 all_goals rfl
theorem Qus (v : V) (l : List Jj) (cs : List V) (hc : LinesC cs l) (hv : Zn 13 v cs l.length) (hl : l.length <= 1000000) (F : AM.Frame) (pc : List V) (hw : Zo (fun f _ => Nat.ble 1 f) F = true) (hF : Qu F 1 = some (.cells pc)) (hpl : pc.length = 19) (nid ng : Int) (h17 : pc[17]? = some (.int .i64 nid)) (h18 : pc[18]? = some (.int .u32 ng)) :
 CW Tryz.prog Qz 90 [v, .func (.func 27) [] [.ptr 0 1 0]] [F, []] fun r H => r = .ret (.int .i64 (J1 (J7 nid ng) 0 l)) /\ H = [F, []] := by
 refine Xr Tryz.func90 rfl ?_
 have len := hv.len Tryz.underlying33
 simp only [Qn, Qf, Qg, Ql, Qa, Qc, nov, gd, rho, Qe, wr, simprocAttr, Qi, ↓Qh, Tryz.ntmps90, ta, new, Qb, hset, Qu, Qs, Qp, splice, zerosN, Qo, Qq, Qk, V.pure, Qr, Zj9, Zlg, len]
 refine W.ul ?_
 refine W.loopS (kt := [0, 1, 7, 8]) rfl (fun i : Nat => Q26 v (.func (.func 27) [] [.ptr 0 1 0]) (.int .i64 l.length) (.int .i64 i)) (fun _ => [F, [], []]) (fun i => i <= l.length /\ J1 (J7 nid ng) i (l.drop i) = J1 (J7 nid ng) 0 l) (fun i => l.length - i) ?_ 0 ⟨by omega, rfl⟩ rfl rfl
 rintro i ⟨hi, hR⟩
 simp only [Q26]
 by_cases h : i < l.length
 . have c1 : decide ((i : Int) < l.length) = true := Zmo (by omega)
   have at1 := hv.at (k := .i64) Tryz.underlying33 Qsa (by decide) (i := (i : Int)) (by omega) (by omega)
   obtain ⟨dv, hdv, ld⟩ := hc.ld h
   have ld1 : ∀ g, ldV Tryz.prog 80 g (.iptr cs ((i : Int).toNat * 13)) = _ := ld
   have w1 : (IntKind.i64).wrap ((i : Int) + 1) = ((i + 1 : Nat) : Int) := by rw [wrap_i64] <;> omega
   obtain ⟨r, H', e1, e2, rfl⟩ := Qz0 F pc hw hF hpl nid ng h17 h18 l[i] dv hdv
   subst e2
   have hcall : ∀ d, callOp Qz (Q5 Tryz.prog Qz) 90 2 d 27 [.agg (Ky l[i] dv), .ptr 0 1 0] [F, [], []] = _ := fun d => Kq rfl rfl rfl e1
   have hS : J1 (J7 nid ng) i (l.drop i) = if J7 nid ng l[i] then (i : Int) else J1 (J7 nid ng) (i + 1) (l.drop (i + 1)) := by
    rw [Zmf h]; rfl
   rw [hR] at hS
   simp only [Qn, Qf, Qg, Ql, Qa, Qc, nov, gd, rho, Qe, wr, simprocAttr, Qi, ↓Qh, c1, at1, ld1, hcall, ta, new, Qb, hset, Qu, Qs, Qp, splice, zerosN, Qo, Qq, Qk, V.pure, Qr, Zle, Zlh]
   refine W.ite ?_ ?_ <;> intro h2 <;> simp only [Qn, Qf, Qg, Ql, Qa, Qc, nov, gd, rho, Qe, wr, simprocAttr, Qi, ↓Qh, ta, new, Qb, hset, Qu, Qs, Qp, w1]
   . refine W.done ?_
     simp only [Qn, Qf, Qg, Ql, Qa, Qc, nov, gd, rho, Qe, wr, simprocAttr, Qi, ↓Qh]
     refine W.done (End.ret (v := .int .i64 (J1 (J7 nid ng) 0 l)) ?_ ⟨rfl, pop2 rfl hw⟩)
     rw [hS, h2]; rfl
   . refine W.done ⟨i + 1, rfl, rfl, ⟨by omega, ?_⟩, by omega⟩
     rw [hS, h2]; rfl
 . have c1 : decide ((i : Int) < l.length) = false := Zmp (by omega)
   simp only [Qn, Qf, Qg, Ql, Qa, Qc, nov, gd, rho, Qe, wr, simprocAttr, Qi, ↓Qh, c1]
   refine W.done ?_
   simp only [Qn, Qf, Qg, Ql, Qa, Qc, nov, gd, rho, Qe, wr, simprocAttr, Qi, ↓Qh]
   refine W.done (End.ret (v := .int .i64 (J1 (J7 nid ng) 0 l)) ?_ ⟨rfl, pop2 rfl hw⟩)
   rw [<- hR, Zlx (by omega)]; rfl
theorem Qri (v : V) (l : List Jj) (cs : List V) (hc : LinesC cs l) (hv : Zn 13 v cs l.length) (hl : l.length <= 1000000) (F : AM.Frame) (pc : List V) (hw : Zo (fun f _ => Nat.ble 1 f) F = true) (hF : Qu F 1 = some (.cells pc)) (hpl : pc.length = 19) (nid ng : Int) (h17 : pc[17]? = some (.int .i64 nid)) (h18 : pc[18]? = some (.int .u32 ng)) :
 CW Tryz.prog Qz 26 [v, .func (.func 27) [] [.ptr 0 1 0]] [F] fun r H => r = .ret (.bool (l.any (J7 nid ng))) /\ H = [F] := by
 refine Xr Tryz.func26 rfl ?_
 obtain ⟨r, H', e1, e2, rfl⟩ := Qus v l cs hc hv hl F pc hw hF hpl nid ng h17 h18
 subst e2
 have hcall : ∀ d, callOp Qz (Q5 Tryz.prog Qz) 26 1 d 90 [v, .func (.func 27) [] [.ptr 0 1 0]] [F, []] = _ := fun d => Kq rfl rfl rfl e1
 simp only [Qn, Qf, Qg, Ql, Qa, Qc, nov, gd, rho, Qe, wr, simprocAttr, Qi, ↓Qh, Tryz.ntmps26, ta, new, Qb, hset, Qu, Qs, Qp, splice, zerosN, Qo, Qq, Qk, V.pure, Qr, Zj9, Zlg, Zle, Zlh, hcall, Qkm]
 exact W.done (End.ret (v := .bool (l.any (J7 nid ng))) rfl ⟨rfl, pop1 rfl hw⟩)
end
section
set_option maxRecDepth 100000
open Go.AM
attribute [local irreducible] U W
theorem _root_.Go.AM.ChangesC.ld {ls : List Ji} {cs : List V} {i : Nat} (h : ChangesC cs ls) (hi : i < ls.length) : ∃ dv, Qgn dv ls[i].n /\ (∀ g, ldV Tryz.prog 75 g (.iptr cs (i * 12)) = some (.agg (Jc ls[i] dv))) := by
 obtain ⟨dv, h1, h2⟩ := h.at_ (Zjr hi)
 refine ⟨dv, h2, fun g => ?_⟩
 show Q2 Tryz.prog 75 cs (i * 12) = _
 have := h.len
 rw [rd75, if_pos (by omega), h1]
structure Q14 (bv wv sv mv lv kv ov cv : V) (d : Int) (space : List UInt8) (p : Qka) : Prop where
 dev : Fz Tryz.prog Qz 79 [.agg [bv, wv]] fun x => x = .int .i64 d
 frz : frz (fun _ _ => none) depth (.agg [bv, wv]) = some (.agg [bv, wv])
 frz0 : ∀ g m, AM.frz g (m + 10) bv = some bv /\ AM.frz g (m + 10) wv = some wv
 nr : ∀ q, bv.refs q = false /\ wv.refs q = false
 sb : bv.scalar = true
 sw : wv.scalar = true
 space : Q1 sv space
 own : Bk mv p.own
 lines : Qgd lv p.lines
 keys : Qjc kv p.keys
 loaded : Qjc ov p.loaded
 changes : Qdk cv p.changes
 fit : p.own.length <= 1000000 /\ p.lines.length <= 1000000 /\ p.changes.length <= 1000000 /\ p.keys.length <= 1000 /\ p.loaded.length <= 1000 /\ (∀ k ∈ p.keys, k.length <= 1000000) /\ (∀ k ∈ p.loaded, k.length <= 1000000)
end
section
set_option maxRecDepth 100000
open Go.AM
attribute [local irreducible] U W
theorem Qaz (x y : Operand) (a b : Bool) : Zz Tryz.prog .neq 4 x y (.bool a) (.bool b) = some (.bool (a != b)) := by
 have hg : (Tryz.prog).eqGuardType (Tryz.prog).depth 4 = false := by kernel_rfl
 simp only [Zz, Qjy, Tryz.underlying4, hg, eqV, Zjv, if_false]
 cases a <;> cases b <;> rfl
set_option maxHeartbeats 16000000 in
theorem Q3r {bv wv sv mv lv kv ov cv : V} {d : Int} {space : List UInt8} {p : Qka} (hp : Q14 bv wv sv mv lv kv ov cv d space p) : Fz Tryz.prog Qz 10 [.agg (Q3p bv wv sv mv lv kv ov cv p)] fun x => x = .int .i64 (okE (Qxf d (Qad space) (Qen space) p)) := by
 refine Jt Tryz.func10 rfl ?_
 obtain ⟨hdev, hfrz, hfr0, hnr, sb, sw, hspace, hown, ⟨lcs, hlc, hlv⟩, hkeys, hload, ⟨ccs, hcc, hcv⟩, f1, f2, f3, f4, f5, f6, f7⟩ := hp
 have ss := Qcw hspace
 have sm := Qcw hown
 have sl := Qcw hlv
 obtain ⟨kcs, hkc, hkv⟩ := hkeys
 have sk := Qcw hkv
 obtain ⟨ocs, hoc, hov⟩ := hload
 have so := Qcw hov
 have sc := Qcw hcv
 obtain ⟨epoch, count, gen, root, own, lines, keys, loaded, changes, logged, nid, ng⟩ := p
 simp only at *
 obtain ⟨m, rfl, hm⟩ := (Qpa bv wv sv d hdev hfrz sb sw space hspace epoch count).op (by rfl) (by
  refine Qt ?_ rfl
  have e : Zb (frz (fun _ _ => none) 11) [bv, wv, sv, .int .u32 epoch, .int .u32 count] = some [bv, wv, sv, .int .u32 epoch, .int .u32 count] :=
   Qt (hfr0 _ 1).1 (Qt (hfr0 _ 1).2 (Qt (Zn.frz hspace _) rfl))
  show Option.map V.agg (Zb (frz _ 11) _) = _
  rw [e]; rfl)
 have hm1 : ∀ s H, _ := fun s H => hm 10 0 s H rfl
 obtain ⟨m, rfl, hm⟩ := (Qce root).op (by rfl) rfl
 have hm2 : ∀ s H, _ := fun s H => hm 10 0 s H rfl
 have hq := fun x y => Qry (x := x) (y := y) root Qek
 have len := hown.len Tryz.underlying32
 have hD : ∀ r, okE (Qxf d (Qad space) (Qen space) ⟨epoch, count, gen, r, own, lines, keys, loaded, changes, logged, nid, ng⟩) = okE (if Qq9 d (Qad space) ⟨epoch, count, gen, r, own, lines, keys, loaded, changes, logged, nid, ng⟩ then false else if Qgq (Qen space) none own then (if Qxx ⟨epoch, count, gen, r, own, lines, keys, loaded, changes, logged, nid, ng⟩ then false else if Qos lines none changes then !(lines.any (J7 nid ng)) else false) else false) := fun r => rfl
 rw [hD]
 have hH : ∀ r, Qq9 d (Qad space) ⟨epoch, count, gen, r, own, lines, keys, loaded, changes, logged, nid, ng⟩ = ((!(Qdv d (Qad space) epoch count)) || (decide (gen > 16777215) || (!(Qgv r) || (decide (r = Qek) != (gen == 0))))) := fun r => rfl
 rw [hH]
 generalize hMB : Qxx _ = mb
 have hMB' : mb = ((!(Qbw lines)) || ((!(Qcg keys 24)) || ((!(Qcg loaded 16)) || (decide (logged < 0) || (decide (logged > 8) || (decide (nid < 1) || decide (nid > 256))))))) := hMB.symm
 clear hMB hD hH
 generalize Qgv root = po at *
 generalize decide (root = Qek) = pz at *
 generalize hst : Qdv d (Qad space) epoch count = st at *
 obtain ⟨ra, rb, rc, rd, re⟩ := root
 simp only [Kh.cells, Qek] at hm2 hq
 generalize hnb : (if Qgq (Qen space) none own = true then if mb = true then false else if Qos lines none changes = true then !lines.any (J7 nid ng) else false else false) = nb
 simp only [Qn, Qf, Qg, Ql, Qa, Qc, nov, gd, rho, Qe, wr, Nat.reduceAdd, Nat.reduceSub, if_true, if_false, reduceIte, reduceCtorEq, Qi, Int.reduceBEq, Int.reduceBNe, Int.reduceLT, Int.reduceLE, ↓Qh, Tryz.ntmps10, ta, new, Qb, hset, Qu, Qs, Qp, Nat.reduceLT, Nat.reduceEqDiff, splice, zerosN, Qo, Qq, Qk, V.pure, Nat.reduceMul, Nat.reduceLeDiff, Qr, Q3p, sb, sw, ss, sm, sl, sk, so, sc, hm1, hm2, hq, Kt, Qaz]
 repeat' ((first | refine W.guardF ?_ ?_ | refine W.guardT ?_ ?_ | refine W.guardXF ?_ ?_ | refine W.guardXT ?_ ?_ | refine W.ite ?_ ?_ | refine W.opsK1 (by kernel_rfl) ?_) <;> intro h <;> simp only [Qn, Qf, Qg, Ql, Qa, Qc, nov, gd, rho, Qe, wr, Nat.reduceAdd, Nat.reduceSub, if_true, if_false, reduceIte, reduceCtorEq, Qi, Int.reduceBEq, Int.reduceBNe, Int.reduceLT, Int.reduceLE, ↓Qh, h, ta, new, Qb, hset, Qu, Qs, Qp, Nat.reduceLT, Nat.reduceEqDiff, splice, zerosN, Qo, Qq, Qk, V.pure, Nat.reduceMul, Nat.reduceLeDiff, Qr, sb, sw, ss, sm, sl, sk, so, sc, hm1, hm2, hq, Kt, Qaz, len])
 all_goals first
  | (refine W.done (Zu.ret rfl rfl ?_)
     simp only [*, Js, if_true, if_false]
     rfl)
  | skip
 have eQ : okE (if (false || (false || (false || false))) = true then false else nb) = okE nb := rfl
 rw [eQ]
 have hst2 : Qdv d (Qad space) epoch count = true := by rw [hst]; simpa using ‹(!st) = false›
 have hsp : space.length = 256 := by
  simp only [Qdv, Zlc, Zl3, Bool.not_eq_false', Qad, Zki, beq_iff_eq] at hst2
  exact hst2.2.1.1.1
 have pcD : ∃ pc, pc = [bv, wv, sv, V.int .u32 epoch, V.int .u32 count, V.int .u32 gen, V.int .i64 ra, V.int .u32 rb, V.int .u32 rc, V.int .u32 rd, V.int .u32 re, mv, lv, kv, ov, cv, V.int .i64 logged, V.int .i64 nid, V.int .u32 ng] := ⟨_, rfl⟩
 obtain ⟨pc, hpc⟩ := pcD
 rw [<- hpc]
 have g2 : pc[2]? = some sv := by rw [hpc]; rfl
 have g11 : pc[11]? = some mv := by rw [hpc]; rfl
 have g12 : pc[12]? = some lv := by rw [hpc]; rfl
 have g13 : pc[13]? = some kv := by rw [hpc]; rfl
 have g14 : pc[14]? = some ov := by rw [hpc]; rfl
 have g15 : pc[15]? = some cv := by rw [hpc]; rfl
 have g16 : pc[16]? = some (.int .i64 logged) := by rw [hpc]; rfl
 have g17 : pc[17]? = some (.int .i64 nid) := by rw [hpc]; rfl
 have g18 : pc[18]? = some (.int .u32 ng) := by rw [hpc]; rfl
 have gl : pc.length = 19 := by rw [hpc]; rfl
 have gr : ∀ q, Qx q pc = false := fun q => by
  rw [hpc]
  simp only [Qx, V.refs, (hnr q).1, (hnr q).2, hspace.noRefs q, hown.noRefs q, hlv.noRefs q, hkv.noRefs q, hov.noRefs q, hcv.noRefs q, Bool.or_false, Bool.or_self]
 clear hpc hm1 hm2 hq hst2
 refine W.ul ?_
 refine W.loopS (kt := [1, 34, 35, 36]) rfl (fun i : Nat => Q3z (.ptr 0 1 0) mv (.int .i64 own.length) (.int .i64 i)) (fun _ => [[(1, .cells pc)]]) (fun i => i <= own.length /\ Qgq (Qen space) (before own i) (own.drop i) = Qgq (Qen space) none own) (fun i => own.length - i) ?_ 0 ⟨by omega, rfl⟩ rfl rfl
 rintro i ⟨hi, hR⟩
 simp only [Q3z]
 by_cases h : i < own.length
 . have c1 : decide ((i : Int) < own.length) = true := Zmo (by omega)
   have at1 := hown.at (k := .i64) Tryz.underlying32 sz3 (by decide) (i := (i : Int)) (by omega) (by omega)
   have w1 : (IntKind.i64).wrap ((i : Int) + 1) = ((i + 1 : Nat) : Int) := by rw [wrap_i64] <;> omega
   have q1 : (Q3 own)[(i : Int).toNat * 1]? = some (.int .i64 own[i]) := by simp [h, Q3]
   have q1' : (Q3 own)[(i : Int).toNat]? = some (.int .i64 own[i]) := by simp [h, Q3]
   have hS : Qgq (Qen space) (before own i) (own.drop i) = if decide (own[i] < 12) || (decide (own[i] >= 256) || ((match before own i with | some q => decide (own[i] <= q) | none => false) || (Qen space own[i].toNat != 1))) then false else Qgq (Qen space) (before own (i + 1)) (own.drop (i + 1)) := by
    rw [Zmf h]
    have e : before own (i + 1) = some own[i] := by simp only [before, Zjr h]
    rw [e]; rfl
   rw [hR] at hS
   generalize hp : own[i] = a at *
   generalize hnx : Qgq (Qen space) (before own (i + 1)) (own.drop (i + 1)) = nx at hS
   have walkR : ∀ (X : List (Nat × Nat)), True := fun _ => trivial
   by_cases hA : decide (a < 12) = true
   . simp only [Qn, Qf, Qg, Ql, Qa, Qc, nov, gd, rho, Qe, wr, Nat.reduceAdd, Nat.reduceSub, if_true, if_false, reduceIte, reduceCtorEq, Qi, Int.reduceBEq, Int.reduceBNe, Int.reduceLT, Int.reduceLE, ↓Qh, c1, at1, q1, q1', hA, rd3, ta, new, Qb, hset, Qu, Qs, Qp, Nat.reduceLT, Nat.reduceEqDiff]
     repeat' ((first | refine W.guardF ?_ ?_ | refine W.guardT ?_ ?_ | refine W.guardXF ?_ ?_ | refine W.guardXT ?_ ?_ | refine W.ite ?_ ?_ | refine W.opsK1 (by kernel_rfl) ?_) <;> intro h <;> simp only [Qn, Qf, Qg, Ql, Qa, Qc, nov, gd, rho, Qe, wr, Nat.reduceAdd, Nat.reduceSub, if_true, if_false, reduceIte, reduceCtorEq, Qi, Int.reduceBEq, Int.reduceBNe, Int.reduceLT, Int.reduceLE, ↓Qh, h, ta, new, Qb, hset, Qu, Qs, Qp, Nat.reduceLT, Nat.reduceEqDiff])
     all_goals first
      | (refine W.done ?_
         simp only [Qn, Qf, Qg, Ql, Qa, Qc, nov, gd, rho, Qe, wr, Nat.reduceAdd, Nat.reduceSub, if_true, if_false, reduceIte, reduceCtorEq, Qi, Int.reduceBEq, Int.reduceBNe, Int.reduceLT, Int.reduceLE, ↓Qh]
         refine W.done (Zu.ret rfl rfl ?_)
         rw [<- hnb, hS]
         simp only [*, Js, if_true, if_false]
         try rfl)
      | (try simp only [Qn, Qf, Qg, Ql, Qa, Qc, nov, gd, rho, Qe, wr, Nat.reduceAdd, Nat.reduceSub, if_true, if_false, reduceIte, reduceCtorEq, Qi, Int.reduceBEq, Int.reduceBNe, Int.reduceLT, Int.reduceLE, ↓Qh, w1]
         refine W.done ⟨i + 1, rfl, rfl, ⟨by omega, ?_⟩, by omega⟩
         rw [hS, hnx]
         simp only [*, Js, if_true, if_false]
         try rfl)
   have hA' : decide (a < 12) = false := by simpa using hA
   by_cases hB : decide (a >= 256) = true
   . simp only [Qn, Qf, Qg, Ql, Qa, Qc, nov, gd, rho, Qe, wr, Nat.reduceAdd, Nat.reduceSub, if_true, if_false, reduceIte, reduceCtorEq, Qi, Int.reduceBEq, Int.reduceBNe, Int.reduceLT, Int.reduceLE, ↓Qh, c1, at1, q1, q1', hA', hB, rd3, ta, new, Qb, hset, Qu, Qs, Qp, Nat.reduceLT, Nat.reduceEqDiff]
     repeat' ((first | refine W.guardF ?_ ?_ | refine W.guardT ?_ ?_ | refine W.guardXF ?_ ?_ | refine W.guardXT ?_ ?_ | refine W.ite ?_ ?_ | refine W.opsK1 (by kernel_rfl) ?_) <;> intro h <;> simp only [Qn, Qf, Qg, Ql, Qa, Qc, nov, gd, rho, Qe, wr, Nat.reduceAdd, Nat.reduceSub, if_true, if_false, reduceIte, reduceCtorEq, Qi, Int.reduceBEq, Int.reduceBNe, Int.reduceLT, Int.reduceLE, ↓Qh, h, ta, new, Qb, hset, Qu, Qs, Qp, Nat.reduceLT, Nat.reduceEqDiff])
     all_goals first
      | (refine W.done ?_
         simp only [Qn, Qf, Qg, Ql, Qa, Qc, nov, gd, rho, Qe, wr, Nat.reduceAdd, Nat.reduceSub, if_true, if_false, reduceIte, reduceCtorEq, Qi, Int.reduceBEq, Int.reduceBNe, Int.reduceLT, Int.reduceLE, ↓Qh]
         refine W.done (Zu.ret rfl rfl ?_)
         rw [<- hnb, hS]
         simp only [*, Js, if_true, if_false]
         try rfl)
      | (try simp only [Qn, Qf, Qg, Ql, Qa, Qc, nov, gd, rho, Qe, wr, Nat.reduceAdd, Nat.reduceSub, if_true, if_false, reduceIte, reduceCtorEq, Qi, Int.reduceBEq, Int.reduceBNe, Int.reduceLT, Int.reduceLE, ↓Qh, w1]
         refine W.done ⟨i + 1, rfl, rfl, ⟨by omega, ?_⟩, by omega⟩
         rw [hS, hnx]
         simp only [*, Js, if_true, if_false]
         try rfl)
   have hB' : decide (a >= 256) = false := by simpa using hB
   have h1' : 12 <= a := by have := of_decide_eq_false hA'; omega
   have h2' : a < 256 := by have := of_decide_eq_false hB'; omega
   have hlt : a.toNat < space.length := by omega
   have at3 := hspace.at (k := .i64) Tryz.underlying26 sz5 (by decide) (i := a) (by omega) (by omega)
   have q3 : (Qj space)[a.toNat * 1]? = some (.int .u8 (Qen space a.toNat)) := by
    rw [Zkt, Qat, Zjr hlt, Zjs]; unfold Qen; rw [List.getD_eq_getElem?_getD, Zjr hlt]; rfl
   have q3' : (Qj space)[a.toNat]? = some (.int .u8 (Qen space a.toNat)) := by rw [<- q3, Zkt]
   generalize hsv : Qen space a.toNat = sa at *
   cases i with
   | zero =>
     have c0 : decide (((0 : Nat) : Int) > 0) = false := rfl
     have hb0 : before own 0 = none := rfl
     simp only [hb0] at hS
     simp only [Qn, Qf, Qg, Ql, Qa, Qc, nov, gd, rho, Qe, wr, Nat.reduceAdd, Nat.reduceSub, if_true, if_false, reduceIte, reduceCtorEq, Qi, Int.reduceBEq, Int.reduceBNe, Int.reduceLT, Int.reduceLE, ↓Qh, c1, at1, q1, q1', hA', hB', c0, at3, q3, q3', g2, g11, rd3, rd5, ta, new, Qb, hset, Qu, Qs, Qp, Nat.reduceLT, Nat.reduceEqDiff]
     repeat' ((first | refine W.guardF ?_ ?_ | refine W.guardT ?_ ?_ | refine W.guardXF ?_ ?_ | refine W.guardXT ?_ ?_ | refine W.ite ?_ ?_ | refine W.opsK1 (by kernel_rfl) ?_) <;> intro h <;> simp only [Qn, Qf, Qg, Ql, Qa, Qc, nov, gd, rho, Qe, wr, Nat.reduceAdd, Nat.reduceSub, if_true, if_false, reduceIte, reduceCtorEq, Qi, Int.reduceBEq, Int.reduceBNe, Int.reduceLT, Int.reduceLE, ↓Qh, h, c0, at3, q3, q3', g2, g11, rd3, rd5, ta, new, Qb, hset, Qu, Qs, Qp, Nat.reduceLT, Nat.reduceEqDiff])
     all_goals first
      | (refine W.done ?_
         simp only [Qn, Qf, Qg, Ql, Qa, Qc, nov, gd, rho, Qe, wr, Nat.reduceAdd, Nat.reduceSub, if_true, if_false, reduceIte, reduceCtorEq, Qi, Int.reduceBEq, Int.reduceBNe, Int.reduceLT, Int.reduceLE, ↓Qh]
         refine W.done (Zu.ret rfl rfl ?_)
         rw [<- hnb, hS]
         simp only [*, Js, if_true, if_false]
         try rfl)
      | (try simp only [Qn, Qf, Qg, Ql, Qa, Qc, nov, gd, rho, Qe, wr, Nat.reduceAdd, Nat.reduceSub, if_true, if_false, reduceIte, reduceCtorEq, Qi, Int.reduceBEq, Int.reduceBNe, Int.reduceLT, Int.reduceLE, ↓Qh, w1]
         refine W.done ⟨0 + 1, rfl, rfl, ⟨by omega, ?_⟩, by omega⟩
         rw [hS, hnx]
         simp only [*, Js, if_true, if_false]
         try rfl)
   | succ k =>
     have c0 : decide (((k + 1 : Nat) : Int) > 0) = true := Zmo (by omega)
     have wk : (IntKind.i64).wrap (((k + 1 : Nat) : Int) - 1) = ((k : Nat) : Int) := by rw [wrap_i64] <;> omega
     have hk : k < own.length := by omega
     have at2 := hown.at (k := .i64) Tryz.underlying32 sz3 (by decide) (i := (k : Int)) (by omega) (by omega)
     have q2 : (Q3 own)[(k : Int).toNat * 1]? = some (.int .i64 own[k]) := by simp [hk, Q3]
     have q2' : (Q3 own)[(k : Int).toNat]? = some (.int .i64 own[k]) := by simp [hk, Q3]
     have hb : before own (k + 1) = some own[k] := by simp only [before, Zjr hk]
     simp only [hb] at hS
     simp only [Qn, Qf, Qg, Ql, Qa, Qc, nov, gd, rho, Qe, wr, Nat.reduceAdd, Nat.reduceSub, if_true, if_false, reduceIte, reduceCtorEq, Qi, Int.reduceBEq, Int.reduceBNe, Int.reduceLT, Int.reduceLE, ↓Qh, c1, at1, q1, q1', hA', hB', c0, wk, at2, q2, q2', at3, q3, q3', g2, g11, rd3, rd5, ta, new, Qb, hset, Qu, Qs, Qp, Nat.reduceLT, Nat.reduceEqDiff]
     repeat' ((first | refine W.guardF ?_ ?_ | refine W.guardT ?_ ?_ | refine W.guardXF ?_ ?_ | refine W.guardXT ?_ ?_ | refine W.ite ?_ ?_ | refine W.opsK1 (by kernel_rfl) ?_) <;> intro h <;> simp only [Qn, Qf, Qg, Ql, Qa, Qc, nov, gd, rho, Qe, wr, Nat.reduceAdd, Nat.reduceSub, if_true, if_false, reduceIte, reduceCtorEq, Qi, Int.reduceBEq, Int.reduceBNe, Int.reduceLT, Int.reduceLE, ↓Qh, h, c0, wk, at2, q2, q2', at3, q3, q3', g2, g11, rd3, rd5, ta, new, Qb, hset, Qu, Qs, Qp, Nat.reduceLT, Nat.reduceEqDiff])
     all_goals first
      | (refine W.done ?_
         simp only [Qn, Qf, Qg, Ql, Qa, Qc, nov, gd, rho, Qe, wr, Nat.reduceAdd, Nat.reduceSub, if_true, if_false, reduceIte, reduceCtorEq, Qi, Int.reduceBEq, Int.reduceBNe, Int.reduceLT, Int.reduceLE, ↓Qh]
         refine W.done (Zu.ret rfl rfl ?_)
         rw [<- hnb, hS]
         simp only [*, Js, if_true, if_false]
         try rfl)
      | (try simp only [Qn, Qf, Qg, Ql, Qa, Qc, nov, gd, rho, Qe, wr, Nat.reduceAdd, Nat.reduceSub, if_true, if_false, reduceIte, reduceCtorEq, Qi, Int.reduceBEq, Int.reduceBNe, Int.reduceLT, Int.reduceLE, ↓Qh, w1]
         refine W.done ⟨k + 1 + 1, rfl, rfl, ⟨by omega, ?_⟩, by omega⟩
         rw [hS, hnx]
         simp only [*, Js, if_true, if_false]
         try rfl)
 . have c1 : decide ((i : Int) < own.length) = false := Zmp (by omega)
   have hA : Qgq (Qen space) none own = true := by
    rw [<- hR, Zlx (by omega)]
    cases hb : before own i <;> rfl
   rw [hA, if_pos rfl] at hnb
   simp only [Qn, Qf, Qg, Ql, Qa, Qc, nov, gd, rho, Qe, wr, Nat.reduceAdd, Nat.reduceSub, if_true, if_false, reduceIte, reduceCtorEq, Qi, Int.reduceBEq, Int.reduceBNe, Int.reduceLT, Int.reduceLE, ↓Qh, c1]
   refine W.done ?_
   obtain ⟨m, rfl, hm⟩ := (Qvr lv lines ⟨lcs, hlc, hlv⟩).op (by rfl) (Qt (hlv.frz _) rfl)
   have hm1 : ∀ s H, _ := fun s H => hm 10 0 s H rfl
   obtain ⟨m, rfl, hm⟩ := (Qmg kv keys ⟨kcs, hkc, hkv⟩ f4 f6 24 (.inl rfl)).op (by rfl) (Qt (hkv.frz _) rfl)
   have hm2 : ∀ s H, _ := fun s H => hm 10 0 s H rfl
   obtain ⟨m, rfl, hm⟩ := (Qmg ov loaded ⟨ocs, hoc, hov⟩ f5 f7 16 (.inr rfl)).op (by rfl) (Qt (hov.frz _) rfl)
   have hm3 : ∀ s H, _ := fun s H => hm 10 0 s H rfl
   generalize Qbw lines = ml at *
   generalize Qcg keys 24 = mk at *
   generalize Qcg loaded 16 = mo at *
   have len2 := hcv.len Tryz.underlying34
   have hcont := Qri lv lines lcs hlc hlv f2
   simp only [Qn, Qf, Qg, Ql, Qa, Qc, nov, gd, rho, Qe, wr, Nat.reduceAdd, Nat.reduceSub, if_true, if_false, reduceIte, reduceCtorEq, Qi, Int.reduceBEq, Int.reduceBNe, Int.reduceLT, Int.reduceLE, ↓Qh, hm1, hm2, hm3, g12, g13, g14, g16, g17, rd3, Qpk, rd22, ta, new, Qb, hset, Qu, Qs, Qp, Nat.reduceLT, Nat.reduceEqDiff]
   repeat' ((first | refine W.guardF ?_ ?_ | refine W.guardT ?_ ?_ | refine W.guardXF ?_ ?_ | refine W.guardXT ?_ ?_ | refine W.ite ?_ ?_ | refine W.opsK1 (by kernel_rfl) ?_) <;> intro h <;> simp only [Qn, Qf, Qg, Ql, Qa, Qc, nov, gd, rho, Qe, wr, Nat.reduceAdd, Nat.reduceSub, if_true, if_false, reduceIte, reduceCtorEq, Qi, Int.reduceBEq, Int.reduceBNe, Int.reduceLT, Int.reduceLE, ↓Qh, h, hm1, hm2, hm3, g12, g13, g14, g15, g16, g17, rd3, Qpk, rd22, Qva, len2, ta, new, Qb, hset, Qu, Qs, Qp, Nat.reduceLT, Nat.reduceEqDiff])
   all_goals first
    | (refine W.done (Zu.ret rfl rfl ?_)
       rw [<- hnb, hMB']
       simp only [*, Js, if_true, if_false]
       try rfl)
    | skip
   have hmb : mb = false := by rw [hMB']; simp only [*, Bool.or_false, Zls]
   rw [hmb, if_neg (by decide)] at hnb
   clear hm1 hm2 hm3 hR hA hMB' len
   refine W.ul ?_
   refine W.loop (fun (i : Nat) t H => ∃ F : AM.Frame, Bu [1, 108, 109, 110] t 0 = Qs4 (.ptr 0 1 0) cv (.int .i64 changes.length) (.int .i64 i) /\ i <= changes.length /\ H = [F] /\ (F = [(1, .cells pc)] \/ ∃ x, F = [(1, .cells pc), (6, .cells x)]) /\ Qos lines (before changes i) (changes.drop i) = Qos lines none changes) (fun i => changes.length - i) ?_ 0 ⟨_, rfl, by omega, rfl, .inl rfl, rfl⟩ rfl
   clear h hi c1
   rintro i t H ⟨F, ht, hi, rfl, hF, hR⟩
   have hd : ([F] : Heap).modify 0 (J8 fun s => [6].contains s) = [[(1, .cells pc)]] := by
    rcases hF with rfl | ⟨x, rfl⟩ <;> rfl
   have vr : cv.refs (fun f s => f == 0 && [6].contains s) = false := hcv.noRefs _
   refine ⟨_, _, Ye (kt := [1, 108, 109, 110]) (ds := [6]) rfl ?_ ?_, ?_⟩
   . rw [ht]
     simp only [Qs4, Qx, V.refs, vr]; simp
   . rw [hd]
     simp only [Zi, Zo, O.refs, gr]; simp
   rw [ht, hd]
   simp only [Qs4]
   by_cases h : i < changes.length
   . have c1 : decide ((i : Int) < changes.length) = true := Zmo (by omega)
     have at1 := hcv.at (k := .i64) Tryz.underlying34 sz75 (by decide) (i := (i : Int)) (by omega) (by omega)
     obtain ⟨dv, hdv, ld⟩ := hcc.ld h
     have sdv : dv.scalar = true := by obtain ⟨_, hq⟩ := hdv; exact Qcw hq
     have ld1 : ∀ g, ldV Tryz.prog 75 g (.iptr ccs ((i : Int).toNat * 12)) = _ := ld
     have w1 : (IntKind.i64).wrap ((i : Int) + 1) = ((i + 1 : Nat) : Int) := by rw [wrap_i64] <;> omega
     have hS : Qos lines (before changes i) (changes.drop i) = if (match Bl lines changes[i].set with | none => true | some l => l.kind != 1) || (!(Qdh changes[i]) || (match before changes i with | some q => decide (Qjs q changes[i] >= 0) | none => false)) then false else Qos lines (before changes (i + 1)) (changes.drop (i + 1)) := by
      rw [Zmf h]
      have e : before changes (i + 1) = some changes[i] := by simp only [before, Zjr h]
      rw [e]; rfl
     rw [hR] at hS
     obtain ⟨m, rfl, hm⟩ := (Qq4 changes[i] dv hdv).op (by rfl) (Qt (Qb2 hdv) rfl)
     have hmc : ∀ s H, _ := fun s H => hm 10 0 s H rfl
     obtain ⟨m, rfl, hm⟩ := (Qsi lv lines lcs hlc hlv f2 changes[i].set).op (by rfl) (Qt (hlv.frz _) rfl)
     have hm1 : ∀ s H, _ := fun s H => hm 10 0 s H rfl
     have hor : ∀ (q : Ji) (qv : V), Qgn qv q.n -> ∀ s H, callOp Qz (Q5 Tryz.prog Qz) 10 0 s 25 [.agg (Jc q qv), .agg (Jc changes[i] dv)] H = some (.ret (.int .i64 (Qjs q changes[i])), H) := fun q qv hqv s H => by
      obtain ⟨m, rfl, hm⟩ := (Q4x q changes[i] qv dv hqv hdv).op (by rfl) (Qt (Qb2 hqv) (Qt (Qb2 hdv) rfl))
      exact hm 10 0 s H rfl
     generalize hnx : Qos lines (before changes (i + 1)) (changes.drop (i + 1)) = nx at hS
     generalize hoi : Qjs = oi at *
     generalize Qdh changes[i] = mc at *
     generalize hp : changes[i] = c at *
     simp only [Jc] at ld1 hmc
     cases hO : Qcz lines c.set with
     | none =>
       have hLf : Bl lines c.set = none := by simp only [Bl, hO]
       simp only [hO] at hm1
       simp only [hLf, Bool.true_or, if_true] at hS
       simp only [Qn, Qf, Qg, Ql, Qa, Qc, nov, gd, rho, Qe, wr, Nat.reduceAdd, Nat.reduceSub, if_true, if_false, reduceIte, reduceCtorEq, Qi, Int.reduceBEq, Int.reduceBNe, Int.reduceLT, Int.reduceLE, ↓Qh, c1, at1, ld1, hm1, hmc, Kt, Qba, Qa7, Qaz, g12, g15, rd3, rd5, Qpk, Qva, sdv, ta, new, Qb, hset, Qu, Qs, Qp, Nat.reduceLT, Nat.reduceEqDiff, splice, zerosN, Qo, Qq, Qk, V.pure, Nat.reduceMul, Nat.reduceLeDiff, Qr]
       repeat' ((first | refine W.guardF ?_ ?_ | refine W.guardT ?_ ?_ | refine W.guardXF ?_ ?_ | refine W.guardXT ?_ ?_ | refine W.ite ?_ ?_ | refine W.opsK1 (by kernel_rfl) ?_) <;> intro h <;> simp only [Qn, Qf, Qg, Ql, Qa, Qc, nov, gd, rho, Qe, wr, Nat.reduceAdd, Nat.reduceSub, if_true, if_false, reduceIte, reduceCtorEq, Qi, Int.reduceBEq, Int.reduceBNe, Int.reduceLT, Int.reduceLE, ↓Qh, h, c1, at1, ld1, hm1, hmc, Kt, Qba, Qa7, Qaz, g12, g15, rd3, rd5, Qpk, Qva, sdv, ta, new, Qb, hset, Qu, Qs, Qp, Nat.reduceLT, Nat.reduceEqDiff, splice, zerosN, Qo, Qq, Qk, V.pure, Nat.reduceMul, Nat.reduceLeDiff, Qr])
       all_goals first
        | (refine W.done ?_
           simp only [Qn, Qf, Qg, Ql, Qa, Qc, nov, gd, rho, Qe, wr, Nat.reduceAdd, Nat.reduceSub, if_true, if_false, reduceIte, reduceCtorEq, Qi, Int.reduceBEq, Int.reduceBNe, Int.reduceLT, Int.reduceLE, ↓Qh]
           refine W.done (Zu.ret rfl rfl ?_)
           rw [<- hnb, hS]
           simp only [*, Js, if_true, if_false]
           try rfl)
        | (try simp only [Qn, Qf, Qg, Ql, Qa, Qc, nov, gd, rho, Qe, wr, Nat.reduceAdd, Nat.reduceSub, if_true, if_false, reduceIte, reduceCtorEq, Qi, Int.reduceBEq, Int.reduceBNe, Int.reduceLT, Int.reduceLE, ↓Qh, w1]
           refine W.done ⟨_, ⟨_, rfl, by omega, rfl, .inr ⟨_, rfl⟩, ?_⟩, by omega⟩
           rw [hS, hnx]
           simp only [*, Js, if_true, if_false]
           try rfl)
     | some j =>
       have hj := Qjb hO
       obtain ⟨j1, j2, j3, j4⟩ := hlc.cells hj
       have hLf : Bl lines c.set = some lines[j] := by simp only [Bl, hO, Zjr hj]
       simp only [hO] at hm1
       simp only [hLf] at hS
       generalize lines[j].kind = lk at *
       cases i with
       | zero =>
         have c0 : decide (((0 : Nat) : Int) > 0) = false := rfl
         have hb0 : before changes 0 = none := rfl
         simp only [hb0] at hS
         simp only [Qn, Qf, Qg, Ql, Qa, Qc, nov, gd, rho, Qe, wr, Nat.reduceAdd, Nat.reduceSub, if_true, if_false, reduceIte, reduceCtorEq, Qi, Int.reduceBEq, Int.reduceBNe, Int.reduceLT, Int.reduceLE, ↓Qh, c0, j2, c1, at1, ld1, hm1, hmc, Kt, Qba, Qa7, Qaz, g12, g15, rd3, rd5, Qpk, Qva, sdv, ta, new, Qb, hset, Qu, Qs, Qp, Nat.reduceLT, Nat.reduceEqDiff, splice, zerosN, Qo, Qq, Qk, V.pure, Nat.reduceMul, Nat.reduceLeDiff, Qr]
         repeat' ((first | refine W.guardF ?_ ?_ | refine W.guardT ?_ ?_ | refine W.guardXF ?_ ?_ | refine W.guardXT ?_ ?_ | refine W.ite ?_ ?_ | refine W.opsK1 (by kernel_rfl) ?_) <;> intro h <;> simp only [Qn, Qf, Qg, Ql, Qa, Qc, nov, gd, rho, Qe, wr, Nat.reduceAdd, Nat.reduceSub, if_true, if_false, reduceIte, reduceCtorEq, Qi, Int.reduceBEq, Int.reduceBNe, Int.reduceLT, Int.reduceLE, ↓Qh, h, c0, j2, c1, at1, ld1, hm1, hmc, Kt, Qba, Qa7, Qaz, g12, g15, rd3, rd5, Qpk, Qva, sdv, ta, new, Qb, hset, Qu, Qs, Qp, Nat.reduceLT, Nat.reduceEqDiff, splice, zerosN, Qo, Qq, Qk, V.pure, Nat.reduceMul, Nat.reduceLeDiff, Qr])
         all_goals first
          | (refine W.done ?_
             simp only [Qn, Qf, Qg, Ql, Qa, Qc, nov, gd, rho, Qe, wr, Nat.reduceAdd, Nat.reduceSub, if_true, if_false, reduceIte, reduceCtorEq, Qi, Int.reduceBEq, Int.reduceBNe, Int.reduceLT, Int.reduceLE, ↓Qh]
             refine W.done (Zu.ret rfl rfl ?_)
             rw [<- hnb, hS]
             simp only [*, Js, if_true, if_false]
             try rfl)
          | (try simp only [Qn, Qf, Qg, Ql, Qa, Qc, nov, gd, rho, Qe, wr, Nat.reduceAdd, Nat.reduceSub, if_true, if_false, reduceIte, reduceCtorEq, Qi, Int.reduceBEq, Int.reduceBNe, Int.reduceLT, Int.reduceLE, ↓Qh, w1]
             refine W.done ⟨_, ⟨_, rfl, by omega, rfl, .inr ⟨_, rfl⟩, ?_⟩, by omega⟩
             rw [hS, hnx]
             simp only [*, Js, if_true, if_false]
             try rfl)
       | succ k =>
         have c0 : decide (((k + 1 : Nat) : Int) > 0) = true := Zmo (by omega)
         have wk : (IntKind.i64).wrap (((k + 1 : Nat) : Int) - 1) = ((k : Nat) : Int) := by rw [wrap_i64] <;> omega
         have hk : k < changes.length := by omega
         have at2 := hcv.at (k := .i64) Tryz.underlying34 sz75 (by decide) (i := (k : Int)) (by omega) (by omega)
         obtain ⟨qv, hqv, ldq⟩ := hcc.ld hk
         have ld2 : ∀ g, ldV Tryz.prog 75 g (.iptr ccs ((k : Int).toNat * 12)) = _ := ldq
         have hmo := hor _ qv hqv
         have hb : before changes (k + 1) = some changes[k] := by simp only [before, Zjr hk]
         simp only [hb] at hS
         simp only [Jc] at ld2 hmo
         simp only [Qn, Qf, Qg, Ql, Qa, Qc, nov, gd, rho, Qe, wr, Nat.reduceAdd, Nat.reduceSub, if_true, if_false, reduceIte, reduceCtorEq, Qi, Int.reduceBEq, Int.reduceBNe, Int.reduceLT, Int.reduceLE, ↓Qh, c0, j2, c1, at1, ld1, hm1, hmc, Kt, Qba, Qa7, Qaz, g12, g15, rd3, rd5, Qpk, Qva, sdv, ta, new, Qb, hset, Qu, Qs, Qp, Nat.reduceLT, Nat.reduceEqDiff, splice, zerosN, Qo, Qq, Qk, V.pure, Nat.reduceMul, Nat.reduceLeDiff, Qr]
         repeat' ((first | refine W.guardF ?_ ?_ | refine W.guardT ?_ ?_ | refine W.guardXF ?_ ?_ | refine W.guardXT ?_ ?_ | refine W.ite ?_ ?_ | refine W.opsK1 (by kernel_rfl) ?_) <;> intro h <;> simp only [Qn, Qf, Qg, Ql, Qa, Qc, nov, gd, rho, Qe, wr, Nat.reduceAdd, Nat.reduceSub, if_true, if_false, reduceIte, reduceCtorEq, Qi, Int.reduceBEq, Int.reduceBNe, Int.reduceLT, Int.reduceLE, ↓Qh, h, c0, wk, at2, ld2, hmo, j2, c1, at1, ld1, hm1, hmc, Kt, Qba, Qa7, Qaz, g12, g15, rd3, rd5, Qpk, Qva, sdv, ta, new, Qb, hset, Qu, Qs, Qp, Nat.reduceLT, Nat.reduceEqDiff, splice, zerosN, Qo, Qq, Qk, V.pure, Nat.reduceMul, Nat.reduceLeDiff, Qr])
         all_goals first
          | (refine W.done ?_
             simp only [Qn, Qf, Qg, Ql, Qa, Qc, nov, gd, rho, Qe, wr, Nat.reduceAdd, Nat.reduceSub, if_true, if_false, reduceIte, reduceCtorEq, Qi, Int.reduceBEq, Int.reduceBNe, Int.reduceLT, Int.reduceLE, ↓Qh]
             refine W.done (Zu.ret rfl rfl ?_)
             rw [<- hnb, hS]
             simp only [*, Js, if_true, if_false]
             try rfl)
          | (try simp only [Qn, Qf, Qg, Ql, Qa, Qc, nov, gd, rho, Qe, wr, Nat.reduceAdd, Nat.reduceSub, if_true, if_false, reduceIte, reduceCtorEq, Qi, Int.reduceBEq, Int.reduceBNe, Int.reduceLT, Int.reduceLE, ↓Qh, w1]
             refine W.done ⟨_, ⟨_, rfl, by omega, rfl, .inr ⟨_, rfl⟩, ?_⟩, by omega⟩
             rw [hS, hnx]
             simp only [*, Js, if_true, if_false]
             try rfl)
   . have c1 : decide ((i : Int) < changes.length) = false := Zmp (by omega)
     have hC : Qos lines none changes = true := by
      rw [<- hR, Zlx (by omega)]
      cases hb : before changes i <;> rfl
     rw [hC, if_pos rfl] at hnb
     simp only [Qn, Qf, Qg, Ql, Qa, Qc, nov, gd, rho, Qe, wr, Nat.reduceAdd, Nat.reduceSub, if_true, if_false, reduceIte, reduceCtorEq, Qi, Int.reduceBEq, Int.reduceBNe, Int.reduceLT, Int.reduceLE, ↓Qh, c1]
     refine W.done ?_
     obtain ⟨r, H', e1, e2, rfl⟩ := hcont [(1, .cells pc)] pc (by simp only [Zo, O.refs, gr]; rfl) rfl gl nid ng g17 g18
     subst e2
     have hcall : ∀ d, callOp Qz (Q5 Tryz.prog Qz) 10 0 d 26 [lv, .func (.func 27) [] [.ptr 0 1 0]] [[(1, .cells pc)]] = _ := fun d => Kq rfl rfl rfl e1
     simp only [Qn, Qf, Qg, Ql, Qa, Qc, nov, gd, rho, Qe, wr, Nat.reduceAdd, Nat.reduceSub, if_true, if_false, reduceIte, reduceCtorEq, Qi, Int.reduceBEq, Int.reduceBNe, Int.reduceLT, Int.reduceLE, ↓Qh, g12, Qpk, ta, new, Qb, hset, Qu, Qs, Qp, Nat.reduceLT, Nat.reduceEqDiff, hcall]
     refine W.ite ?_ ?_ <;> intro h2 <;> simp only [Qn, Qf, Qg, Ql, Qa, Qc, nov, gd, rho, Qe, wr, Nat.reduceAdd, Nat.reduceSub, if_true, if_false, reduceIte, reduceCtorEq, Qi, Int.reduceBEq, Int.reduceBNe, Int.reduceLT, Int.reduceLE, ↓Qh, ta, new, Qb, hset, Qu, Qs, Qp, Nat.reduceLT, Nat.reduceEqDiff]
     . refine W.done (Zu.ret rfl rfl ?_)
       rw [<- hnb, h2]; rfl
     . refine W.done (Zu.ret rfl rfl ?_)
       rw [<- hnb, h2]; rfl
end
end Go.Proofs.YtgnnlchhfiomgaaGreatDoor
