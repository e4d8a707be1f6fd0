/- This file holds in one the texts E2, E3, E4, E5, E6, E7, E8; each says at its head what it proves. -/
import Derived.Test.YteagpfbdmiihaaaGreatDoorT34
set_option linter.unusedSimpArgs false
set_option linter.unusedVariables false
namespace Go.Proofs.YteagpfbdmiihaaaGreatDoor
section
set_option maxRecDepth 100000
open Go.AM
attribute [local irreducible] U W
theorem _root_.Go.AM.LinesC.ld {ls : List Jo} {cs : List V} {i : Nat} (h : LinesC cs ls) (hi : i < ls.length) : ∃ dv, Qd0 dv ls[i].dead /\ (∀ g, ldV Tryz.prog 96 g (.iptr cs (i * 13)) = some (.agg (Xg ls[i] dv))) := by
 obtain ⟨dv, h1, h2⟩ := h.at_ (Zkv hi)
 refine ⟨dv, h2, fun g => ?_⟩
 show Q0 Tryz.prog 96 cs (i * 13) = _
 have := h.len
 rw [rd96, if_pos (by omega), h1]
/-! ### Searching -/
theorem Qy2 (g : Get) (n : Nat) (h : n <= 281474976710656) : convertV Tryz.prog g 3 218 (.int .i64 (n : Int)) = some (.val (.int .u64 (n : Int)) none) := by
 have w : (IntKind.u64).wrap (n : Int) = (n : Int) := by
  simp only [IntKind.wrap, IntKind.bits, IntKind.signed, Zni, Zkz, if_false]; omega
 simp only [convertV, Tryz.underlying3, Tryz.underlying218, w]
theorem Qzx (g : Get) (n : Nat) (h : n <= 281474976710656) : convertV Tryz.prog g 218 3 (.int .u64 (n : Int)) = some (.val (.int .i64 (n : Int)) none) := by
 simp only [convertV, Tryz.underlying3, Tryz.underlying218, wrap_i64 (n := (n : Int)) (by omega) (by omega)]
theorem Qv3 (l : Jo) (dv : V) (hd : Qd0 dv l.dead) (id : Int) : Fz Tryz.prog Qz 73 [.agg (Xg l dv), .int .i64 id] fun x => x = .int .i64 (Qao l.id id) := by
 refine Jy Tryz.func73 rfl ?_
 have sc := Qc8 hd
 obtain ⟨m, rfl, hm⟩ := (Xr l.id id).op (by rfl) rfl
 have hm1 : ∀ s H, _ := fun s H => hm 73 0 s H rfl
 simp only [Qn, Qh, Qg, Ql, Qa, Qd, nov, gd, rho, Qe, wr, simprocAttr, Qj, ↓Qi, Tryz.ntmps73, ta, new, Qb, hset, Qu, Qs, Qp, splice, zerosN, Qo, Qr, Qk, V.pure, Qq, Xg, sc, hm1]
 exact W.done (Zx.ret rfl rfl rfl)
theorem Qz9 (v : V) (ls : List Jo) (hv : Qgp v ls) (hl : ls.length <= 1000000) (id : Int) :
 Fz Tryz.prog Qz 72 [v, .int .i64 id, .func (.func 73) [] []] fun x => x = .tuple [.int .i64 (bs (B9 ls id) ls.length), .bool (Qjx (B9 ls id) ls.length)] := by
 refine Jy Tryz.func72 rfl ?_
 obtain ⟨cs, hc, hv⟩ := hv
 have len := hv.len Tryz.underlying62
 have sc := Qc8 hv
 simp only [Qn, Qh, Qg, Ql, Qa, Qd, nov, gd, rho, Qe, wr, simprocAttr, Qj, ↓Qi, Tryz.ntmps72, ta, new, Qb, hset, Qu, Qs, Qp, splice, zerosN, Qo, Qr, Qk, V.pure, Qq, len]
 refine W.ul ?_
 refine W.loopS (kt := [0, 1, 2, 8, 9, 10]) rfl (fun a : Nat × Nat => Q3e v (.int .i64 id) (.func (.func 73) [] []) (.int .i64 ls.length) (.int .i64 a.1) (.int .i64 a.2)) (fun _ => [[]])
  (fun a => a.1 <= a.2 /\ a.2 <= ls.length /\ Qgv (B9 ls id) (a.2 - a.1) a.1 a.2 = bs (B9 ls id) ls.length) (fun a => a.2 - a.1) ?_ (0, ls.length) ⟨by simp, by simp, rfl⟩ rfl rfl
 rintro ⟨i, j⟩ ⟨hij, hj, hR⟩
 simp only at hij hj hR
 simp only [Q3e]
 by_cases h : i < j
 . have c1 : decide ((i : Int) < j) = true := Znv (by omega)
   have wa : (IntKind.i64).wrap ((i : Int) + j) = ((i + j : Nat) : Int) := by rw [wrap_i64] <;> omega
   have hm : (i + j) / 2 < ls.length := by omega
   have at1 := hv.at (k := .i64) Tryz.underlying62 Qrw (by decide) (i := (((i + j) / 2 : Nat) : Int)) (by omega) (by omega)
   obtain ⟨dv, hd, ld⟩ := hc.ld hm
   have ld' : ∀ g, ldV Tryz.prog 96 g (.iptr cs ((((i + j) / 2 : Nat) : Int).toNat * 13)) = _ := ld
   have cv1 := fun g => Qy2 g (i + j) (by omega)
   have cv2 := fun g => Qzx g ((i + j) / 2) (by omega)
   have sh : ∀ p q, Z1 Tryz.prog .shr 218 p q (.int .u64 ((i + j : Nat) : Int)) (.int .u64 1) = _ := fun p q => Q2z (i + j)
   obtain ⟨m, rfl, hm2⟩ := (Qv3 ls[(i + j) / 2] dv hd id).op (by rfl) (Qt (Qme hd) rfl)
   have hm3 : ∀ s H, _ := fun s H => hm2 72 0 s H rfl
   have eL : B9 ls id ((i + j) / 2) = Qao ls[(i + j) / 2].id id := by simp only [B9, Zkv hm]
   have w1 : (IntKind.i64).wrap ((((i + j) / 2 : Nat) : Int) + 1) = (((i + j) / 2 + 1 : Nat) : Int) := by rw [wrap_i64] <;> omega
   rw [<- eL] at hm3
   simp only [Qn, Qh, Qg, Ql, Qa, Qd, nov, gd, rho, Qe, wr, simprocAttr, Qj, ↓Qi, c1, wa, at1, ld', cv1, cv2, sh, hm3, ta, new, Qb, hset, Qu, Qs, Qp, splice, zerosN, Qo, Qr, Qk, V.pure, Qq]
   refine W.ite ?_ ?_ <;> intro h2 <;> simp only [Qn, Qh, Qg, Ql, Qa, Qd, nov, gd, rho, Qe, wr, simprocAttr, Qj, ↓Qi, ta, new, Qb, hset, Qu, Qs, Qp, splice, zerosN, Qo, Qr, Qk, V.pure, Qq, w1]
   . exact W.done ⟨((i + j) / 2 + 1, j), rfl, rfl, ⟨by simp only; omega, hj, by rw [<- hR, Q2e h h2]⟩, by simp only; omega⟩
   . exact W.done ⟨(i, (i + j) / 2), rfl, rfl, ⟨by simp only; omega, by simp only; omega, by rw [<- hR, Q23 h h2]⟩, by simp only; omega⟩
 . have c1 : decide ((i : Int) < j) = false := Znw (by omega)
   have e : i = j := by omega
   subst e
   have hi : i = bs (B9 ls id) ls.length := by
    rw [<- hR, Nat.sub_self]; rfl
   have key : Qjx (B9 ls id) ls.length = (decide (i < ls.length) && decide (B9 ls id i = 0)) := by rw [Qjx, <- hi]
   rw [key, <- hi]
   simp only [Qn, Qh, Qg, Ql, Qa, Qd, nov, gd, rho, Qe, wr, simprocAttr, Qj, ↓Qi, c1]
   refine W.done ?_
   by_cases h2 : i < ls.length
   . have c2 : decide ((i : Int) < ls.length) = true := Znv (by omega)
     have at1 := hv.at (k := .i64) Tryz.underlying62 Qrw (by decide) (i := (i : Int)) (by omega) (by omega)
     obtain ⟨dv, hd, ld⟩ := hc.ld h2
     have ld' : ∀ g, ldV Tryz.prog 96 g (.iptr cs ((i : Int).toNat * 13)) = _ := ld
     obtain ⟨m, rfl, hm2⟩ := (Qv3 ls[i] dv hd id).op (by rfl) (Qt (Qme hd) rfl)
     have hm3 : ∀ s H, _ := fun s H => hm2 72 0 s H rfl
     have eL : B9 ls id i = Qao ls[i].id id := by simp only [B9, Zkv h2]
     rw [<- eL] at hm3
     have e0 : (B9 ls id i == 0) = decide (B9 ls id i = 0) := rfl
     simp only [Qn, Qh, Qg, Ql, Qa, Qd, nov, gd, rho, Qe, wr, simprocAttr, Qj, ↓Qi, c2, at1, ld', hm3, e0, ta, new, Qb, hset, Qu, Qs, Qp, splice, zerosN, Qo, Qr, Qk, V.pure, Qq]
     rw [Znv h2, Zmv]
     exact W.done (Zx.ret rfl rfl rfl)
   . have c2 : decide ((i : Int) < ls.length) = false := Znw (by omega)
     simp only [Qn, Qh, Qg, Ql, Qa, Qd, nov, gd, rho, Qe, wr, simprocAttr, Qj, ↓Qi, c2, ta, new, Qb, hset, Qu, Qs, Qp, splice, zerosN, Qo, Qr, Qk, V.pure, Qq]
     rw [Znw h2, Zni]
     exact W.done (Zx.ret rfl rfl rfl)
theorem Qro (v : V) (ls : List Jo) (cs : List V) (hc : LinesC cs ls) (hv : Zq 13 v cs ls.length) (hl : ls.length <= 1000000) (id : Int) :
 Fz Tryz.prog Qz 36 [v, .int .i64 id] fun x => x = (match Qc1 ls id with | some i => .iptr cs (i * 13) | none => .nP) := by
 refine Jy Tryz.func36 rfl ?_
 obtain ⟨m, rfl, hm⟩ := (Qz9 v ls ⟨cs, hc, hv⟩ hl id).op (by rfl) (Qt (hv.frz _) rfl)
 have hm1 : ∀ s H, _ := fun s H => hm 36 0 s H rfl
 simp only [Qn, Qh, Qg, Ql, Qa, Qd, nov, gd, rho, Qe, wr, simprocAttr, Qj, ↓Qi, Tryz.ntmps36, ta, new, Qb, hset, Qu, Qs, Qp, splice, zerosN, Qo, Qr, Qk, V.pure, Qq, hm1]
 refine W.ite ?_ ?_ <;> intro h <;> simp only [Qn, Qh, Qg, Ql, Qa, Qd, nov, gd, rho, Qe, wr, simprocAttr, Qj, ↓Qi, ta, new, Qb, hset, Qu, Qs, Qp, splice, zerosN, Qo, Qr, Qk, V.pure, Qq]
 . have h' : Qjx (B9 ls id) ls.length = false := by simpa using h
   exact W.done (Zx.ret rfl rfl (by simp only [Qc1, h']; rfl))
 . have h' : Qjx (B9 ls id) ls.length = true := by simpa using h
   have hlt : bs (B9 ls id) ls.length < ls.length := by
    simp only [Qjx, Zlm] at h'; exact of_decide_eq_true h'.1
   have at1 := hv.at (k := .i64) Tryz.underlying62 Qrw (by decide) (i := ((bs (B9 ls id) ls.length : Nat) : Int)) (by omega) (by omega)
   simp only [Qn, Qh, Qg, Ql, Qa, Qd, nov, gd, rho, Qe, wr, simprocAttr, Qj, ↓Qi, ta, new, Qb, hset, Qu, Qs, Qp, splice, zerosN, Qo, Qr, Qk, V.pure, Qq, at1]
   refine W.done (Zx.ret rfl rfl ?_)
   simp only [Qc1, h', if_true]; rfl
end
section
set_option maxRecDepth 100000
open Go.AM
attribute [local irreducible] U W
theorem Qbg (x y : Operand) : Z1 Tryz.prog .eql 92 x y .nP .nP = some (.bool true) := by
 have hg : (Tryz.prog).eqGuardType (Tryz.prog).depth 92 = false := by kernel_rfl
 simp only [Z1, Qjf, Tryz.underlying92, hg, eqV, Zkz, if_false]
 rfl
theorem Qbh (x y : Operand) (cs : List V) (o : Nat) : Z1 Tryz.prog .eql 92 x y (.iptr cs o) .nP = some (.bool false) := by
 have hg : (Tryz.prog).eqGuardType (Tryz.prog).depth 92 = false := by kernel_rfl
 simp only [Z1, Qjf, Tryz.underlying92, hg, eqV, Zkz, if_false]
 rfl
theorem kin_fz (v : V) (ls : List Jo) (hv : Qgp v ls) (hl : ls.length <= 1000000) (x : Jo) (dv : V) (hd : Qd0 dv x.dead) :
 Fz Tryz.prog Qz 68 [v, .agg (Xg x dv)] fun y => y = .bool (Qqc ls x) := by
 refine Jy Tryz.func68 rfl ?_
 obtain ⟨cs, hc, hv⟩ := hv
 have sc := Qc8 hd
 have sv := Qc8 hv
 obtain ⟨m, rfl, hm⟩ := (Qro v ls cs hc hv hl x.owner).op (by rfl) (Qt (hv.frz _) rfl)
 have hm1 : ∀ s H, _ := fun s H => hm 68 0 s H rfl
 obtain ⟨m, rfl, hm⟩ := (Qro v ls cs hc hv hl x.prev).op (by rfl) (Qt (hv.frz _) rfl)
 have hm2 : ∀ s H, _ := fun s H => hm 68 0 s H rfl
 obtain ⟨id, kind, owner, prev, txg, guid, key, root, dead⟩ := x
 obtain ⟨ra, rb, rc, rd, re⟩ := root
 simp only at hm1 hm2 hd sc
 cases hO : Qc1 ls owner with
 | none =>
   simp only [hO] at hm1
   have hF : ∀ r, Qqc ls ⟨id, kind, owner, prev, txg, guid, key, r, dead⟩ = false := fun r => by simp only [Qqc, Bw, hO]
   rw [hF]
   generalize (match Qc1 ls prev with | some i => V.iptr cs (i * 13) | none => V.nP) = pv at hm2
   simp only [Qn, Qh, Qg, Ql, Qa, Qd, nov, gd, rho, Qe, wr, simprocAttr, Qj, ↓Qi, Tryz.ntmps68, ta, new, Qb, hset, Qu, Qs, Qp, splice, zerosN, Qo, Qr, Qk, V.pure, Qq, Xg, sc, hm1, hm2, Qbg, Qbh]
   repeat' ((first | refine W.guardF ?_ ?_ | refine W.guardT ?_ ?_ | refine W.guardXF ?_ ?_ | refine W.guardXT ?_ ?_ | refine W.ite ?_ ?_ | refine W.opsK1 (by kernel_rfl) ?_) <;> intro h <;> simp only [Qn, Qh, Qg, Ql, Qa, Qd, nov, gd, rho, Qe, wr, simprocAttr, Qj, ↓Qi, h, ta, new, Qb, hset, Qu, Qs, Qp, splice, zerosN, Qo, Qr, Qk, V.pure, Qq, Qbg, Qbh])
   all_goals refine W.done (Zx.ret rfl rfl ?_)
   all_goals first | rfl | (simp only [*, Jz, if_true, if_false]; try rfl)
 | some i =>
   have hi := Qjq hO
   obtain ⟨i1, i2, i3, i4⟩ := hc.cells hi
   have hOf : Bw ls owner = some ls[i] := by simp only [Bw, hO, Zkv hi]
   simp only [hO] at hm1
   cases hP : Qc1 ls prev with
   | none =>
     have hPf : Bw ls prev = none := by simp only [Bw, hP]
     simp only [hP] at hm2
     simp only [Qn, Qh, Qg, Ql, Qa, Qd, nov, gd, rho, Qe, wr, simprocAttr, Qj, ↓Qi, Tryz.ntmps68, ta, new, Qb, hset, Qu, Qs, Qp, splice, zerosN, Qo, Qr, Qk, V.pure, Qq, Xg, sc, hm1, hm2, Qbg, Qbh, i1, i2, i3, i4]
     repeat' ((first | refine W.guardF ?_ ?_ | refine W.guardT ?_ ?_ | refine W.guardXF ?_ ?_ | refine W.guardXT ?_ ?_ | refine W.ite ?_ ?_ | refine W.opsK1 (by kernel_rfl) ?_) <;> intro h <;> simp only [Qn, Qh, Qg, Ql, Qa, Qd, nov, gd, rho, Qe, wr, simprocAttr, Qj, ↓Qi, h, ta, new, Qb, hset, Qu, Qs, Qp, splice, zerosN, Qo, Qr, Qk, V.pure, Qq, Qbg, Qbh, i1, i2, i3, i4])
     all_goals refine W.done (Zx.ret rfl rfl ?_)
     all_goals first | rfl | (simp only [Qqc, hOf, hPf, *, Jz, if_true, if_false]; try rfl)
   | some j =>
     have hj := Qjq hP
     obtain ⟨j1, j2, j3, j4⟩ := hc.cells hj
     have hPf : Bw ls prev = some ls[j] := by simp only [Bw, hP, Zkv hj]
     simp only [hP] at hm2
     simp only [Qn, Qh, Qg, Ql, Qa, Qd, nov, gd, rho, Qe, wr, simprocAttr, Qj, ↓Qi, Tryz.ntmps68, ta, new, Qb, hset, Qu, Qs, Qp, splice, zerosN, Qo, Qr, Qk, V.pure, Qq, Xg, sc, hm1, hm2, Qbg, Qbh, i1, i2, i3, i4, j1, j2, j3, j4]
     repeat' ((first | refine W.guardF ?_ ?_ | refine W.guardT ?_ ?_ | refine W.guardXF ?_ ?_ | refine W.guardXT ?_ ?_ | refine W.ite ?_ ?_ | refine W.opsK1 (by kernel_rfl) ?_) <;> intro h <;> simp only [Qn, Qh, Qg, Ql, Qa, Qd, nov, gd, rho, Qe, wr, simprocAttr, Qj, ↓Qi, h, ta, new, Qb, hset, Qu, Qs, Qp, splice, zerosN, Qo, Qr, Qk, V.pure, Qq, Qbg, Qbh, i1, i2, i3, i4, j1, j2, j3, j4])
     all_goals refine W.done (Zx.ret rfl rfl ?_)
     all_goals first | rfl | (simp only [Qqc, hOf, hPf, *, Jz, if_true, if_false]; try rfl)
end
section
set_option maxRecDepth 100000
open Go.AM
attribute [local irreducible] U W
theorem Qzo (l : List Kl) (i : Nat) (h : i < l.length) (g : Get) : ldV Tryz.prog 61 g (.iptr (Qdh l) (i * 5)) = some (.agg l[i].cells) := by
 show Q0 Tryz.prog 61 (Qdh l) (i * 5) = _
 have := Qqt l
 rw [rd61, if_pos (by omega), Qt6 l i h]
set_option maxHeartbeats 4000000 in
theorem Qrt (v : V) (l : List Kl) (hv : Qd0 v l) : Fz Tryz.prog Qz 67 [v] fun x => x = .int .i64 (okE (Qmp l)) := by
 refine Jy Tryz.func67 rfl ?_
 have len := hv.len Tryz.underlying94
 simp only [Qn, Qh, Qg, Ql, Qa, Qd, nov, gd, rho, Qe, wr, simprocAttr, Qj, ↓Qi, Tryz.ntmps67, ta, new, Qb, hset, Qu, Qs, Qp, splice, zerosN, Qo, Qr, Qk, V.pure, Qq, len]
 refine W.ite ?_ ?_ <;> intro h <;> simp only [Qn, Qh, Qg, Ql, Qa, Qd, nov, gd, rho, Qe, wr, simprocAttr, Qj, ↓Qi, ta, new, Qb, hset, Qu, Qs, Qp, splice, zerosN, Qo, Qr, Qk, V.pure, Qq, len]
 . exact W.done (Zx.ret rfl rfl (by simp only [Qmp, h]; rfl))
 have hl : l.length <= 240 := by have := of_decide_eq_false h; omega
 have hD : Qmp l = Qf0 none l := by simp only [Qmp, h]; rfl
 rw [hD]
 refine W.ul ?_
 refine W.loop (fun (i : Nat) t H => ∃ F : AM.Frame, Bi [0, 8, 9, 10] t 0 = Qyh v v (.int .i64 l.length) (.int .i64 i) /\ i <= l.length /\ H = [F] /\ (F = [] \/ ∃ x, F = [(4, .cells x)]) /\ Qf0 (before l i) (l.drop i) = Qf0 none l) (fun i => l.length - i) ?_ 0 ⟨_, rfl, by omega, rfl, .inl rfl, rfl⟩ rfl
 rintro i t H ⟨F, ht, hi, rfl, hF, hR⟩
 have hd : ([F] : Heap).modify 0 (J8 fun s => [4].contains s) = [[]] := by
  rcases hF with rfl | ⟨x, rfl⟩ <;> rfl
 have vr : v.refs (fun f s => f == 0 && [4].contains s) = false := hv.noRefs _
 refine ⟨_, _, J4 (kt := [0, 8, 9, 10]) (ds := [4]) rfl ?_ ?_, ?_⟩
 . rw [ht]
   simp only [Qyh, Qx, V.refs, vr]; simp
 . rw [hd]
   simp only [Zh, Zo, O.refs, Qx, V.refs]; simp
 rw [ht, hd]
 simp only [Qyh]
 by_cases h : i < l.length
 . have c1 : decide ((i : Int) < l.length) = true := Znv (by omega)
   have at1 := hv.at (k := .i64) Tryz.underlying94 sz61 (by decide) (i := (i : Int)) (by omega) (by omega)
   have ld1 : ∀ g, ldV Tryz.prog 61 g (.iptr (Qdh l) ((i : Int).toNat * 5)) = _ := fun g => Qzo l i h g
   have w1 : (IntKind.i64).wrap ((i : Int) + 1) = ((i + 1 : Nat) : Int) := by rw [wrap_i64] <;> omega
   obtain ⟨m, rfl, hm⟩ := (Qck l[i]).op (by rfl) rfl
   have hm1 : ∀ s H, _ := fun s H => hm 67 0 s H rfl
   have hq := fun x y => Qqw (x := x) (y := y) l[i] Qec
   have hS : Qf0 (before l i) (l.drop i) = if decide (l[i] = Qec) || (!(Qhe l[i]) || (match before l i with | some q => decide (Qao q.at_ l[i].at_ >= 0) | none => false)) then false else Qf0 (before l (i + 1)) (l.drop (i + 1)) := by
    rw [Znm h]
    have e : before l (i + 1) = some l[i] := by simp only [before, Zkv h]
    rw [e]; rfl
   rw [hR] at hS
   generalize hp : l[i] = p at *
   obtain ⟨a, b, c, d, e⟩ := p
   simp only [Kl.cells, Qec] at ld1 hm1 hq hS
   generalize hnx : Qf0 (before l (i + 1)) (l.drop (i + 1)) = nx at hS
   cases i with
   | zero =>
     have c0 : decide (((0 : Nat) : Int) > 0) = false := rfl
     have hb0 : before l 0 = none := rfl
     simp only [hb0] at hS
     simp only [Qn, Qh, Qg, Ql, Qa, Qd, nov, gd, rho, Qe, wr, Nat.reduceAdd, Nat.reduceSub, if_true, if_false, reduceIte, reduceCtorEq, Nat.reduceLT, Nat.reduceEqDiff, Nat.reduceMul, Nat.reduceLeDiff, Qj, Int.reduceBEq, Int.reduceBNe, Int.reduceLT, Int.reduceLE, ↓Qi, c1, at1, ld1, hm1, hq, c0, Xa, ta, new, Qb, hset, Qu, Qs, Qp, splice, zerosN, Qo, Qr, Qk, V.pure, Qq]
     repeat' ((first | refine W.guardF ?_ ?_ | refine W.guardT ?_ ?_ | refine W.guardXF ?_ ?_ | refine W.guardXT ?_ ?_ | refine W.ite ?_ ?_ | refine W.opsK1 (by kernel_rfl) ?_) <;> intro h <;> simp only [Qn, Qh, Qg, Ql, Qa, Qd, nov, gd, rho, Qe, wr, simprocAttr, Qj, ↓Qi, h, hm1, hq, c0, Xa, ta, new, Qb, hset, Qu, Qs, Qp, splice, zerosN, Qo, Qr, Qk, V.pure, Qq])
     all_goals first
     | (refine W.done ?_
        simp only [Qn, Qh, Qg, Ql, Qa, Qd, nov, gd, rho, Qe, wr, simprocAttr, Qj, ↓Qi]
        refine W.done (Zx.ret rfl rfl ?_)
        rw [hS]
        simp only [*, Jz, if_true, if_false, okE]
        try rfl)
     | (try simp only [Qn, Qh, Qg, Ql, Qa, Qd, nov, gd, rho, Qe, wr, simprocAttr, Qj, ↓Qi, w1, (rfl : (IntKind.i64).wrap 1 = 1)]
        refine W.done ⟨0 + 1, ⟨_, rfl, by omega, rfl, .inr ⟨_, rfl⟩, ?_⟩, by omega⟩
        rw [hS, hnx]
        simp only [*, Jz, if_true, if_false]
        try rfl)
   | succ k =>
     have c0 : decide (((k + 1 : Nat) : Int) > 0) = true := Znv (by omega)
     have wk : (IntKind.i64).wrap (((k + 1 : Nat) : Int) - 1) = ((k : Nat) : Int) := by rw [wrap_i64] <;> omega
     have hk : k < l.length := by omega
     have at2 := hv.at (k := .i64) Tryz.underlying94 sz61 (by decide) (i := (k : Int)) (by omega) (by omega)
     have ld2 : ∀ g, ldV Tryz.prog 61 g (.iptr (Qdh l) ((k : Int).toNat * 5)) = _ := fun g => Qzo l k hk g
     obtain ⟨m, rfl, hm⟩ := (Qs4 l[k] ⟨a, b, c, d, e⟩).op (by rfl) rfl
     have hm2 : ∀ s H, _ := fun s H => hm 67 0 s H rfl
     have hb : before l (k + 1) = some l[k] := by simp only [before, Zkv hk]
     simp only [hb] at hS
     generalize hlk : l[k] = q at *
     obtain ⟨a', b', c', d', e'⟩ := q
     simp only [Kl.cells, Qec] at ld2 hm2
     simp only [Qn, Qh, Qg, Ql, Qa, Qd, nov, gd, rho, Qe, wr, simprocAttr, Qj, ↓Qi, c1, at1, ld1, hm1, hq, c0, Xa, ta, new, Qb, hset, Qu, Qs, Qp, splice, zerosN, Qo, Qr, Qk, V.pure, Qq]
     repeat' ((first | refine W.guardF ?_ ?_ | refine W.guardT ?_ ?_ | refine W.guardXF ?_ ?_ | refine W.guardXT ?_ ?_ | refine W.ite ?_ ?_ | refine W.opsK1 (by kernel_rfl) ?_) <;> intro h <;> simp only [Qn, Qh, Qg, Ql, Qa, Qd, nov, gd, rho, Qe, wr, simprocAttr, Qj, ↓Qi, h, hm1, hq, c0, Xa, wk, at2, ld2, hm2, ta, new, Qb, hset, Qu, Qs, Qp, splice, zerosN, Qo, Qr, Qk, V.pure, Qq])
     all_goals first
     | (refine W.done ?_
        simp only [Qn, Qh, Qg, Ql, Qa, Qd, nov, gd, rho, Qe, wr, simprocAttr, Qj, ↓Qi]
        refine W.done (Zx.ret rfl rfl ?_)
        rw [hS]
        simp only [*, Jz, if_true, if_false, okE]
        try rfl)
     | (try simp only [Qn, Qh, Qg, Ql, Qa, Qd, nov, gd, rho, Qe, wr, simprocAttr, Qj, ↓Qi, w1, (rfl : (IntKind.i64).wrap 1 = 1)]
        refine W.done ⟨_, ⟨_, rfl, by omega, rfl, .inr ⟨_, rfl⟩, ?_⟩, by omega⟩
        rw [hS, hnx]
        simp only [*, Jz, if_true, if_false]
        try rfl)
 . have c1 : decide ((i : Int) < l.length) = false := Znw (by omega)
   simp only [Qn, Qh, Qg, Ql, Qa, Qd, nov, gd, rho, Qe, wr, simprocAttr, Qj, ↓Qi, c1]
   refine W.done ?_
   simp only [Qn, Qh, Qg, Ql, Qa, Qd, nov, gd, rho, Qe, wr, simprocAttr, Qj, ↓Qi]
   refine W.done (Zx.ret rfl rfl ?_)
   rw [<- hR, Zm2 (by omega)]
   cases hb : before l i <;> rfl
end
section
set_option maxRecDepth 100000
open Go.AM
attribute [local irreducible] U W
set_option maxHeartbeats 8000000 in
theorem Qvs (v : V) (ls : List Jo) (hv : Qgp v ls) : Fz Tryz.prog Qz 34 [v] fun x => x = .bool (Qaa ls) := by
 refine Jy Tryz.func34 rfl ?_
 have hv0 := hv
 obtain ⟨cs, hc, hv⟩ := hv
 have len := hv.len Tryz.underlying62
 have sv := Qc8 hv
 simp only [Qn, Qh, Qg, Ql, Qa, Qd, nov, gd, rho, Qe, wr, simprocAttr, Qj, ↓Qi, Tryz.ntmps34, ta, new, Qb, hset, Qu, Qs, Qp, splice, zerosN, Qo, Qr, Qk, V.pure, Qq, len]
 refine W.ite ?_ ?_ <;> intro h <;> simp only [Qn, Qh, Qg, Ql, Qa, Qd, nov, gd, rho, Qe, wr, simprocAttr, Qj, ↓Qi, ta, new, Qb, hset, Qu, Qs, Qp, splice, zerosN, Qo, Qr, Qk, V.pure, Qq, len]
 . exact W.done (Zx.ret rfl rfl (by simp only [Qaa, h]; rfl))
 have hl : ls.length <= 16 := by have := of_decide_eq_false h; omega
 have hD : Qaa ls = if Qek none ls then Qen ls ls else false := by simp only [Qaa, h]; rfl
 rw [hD]
 refine W.ul ?_
 refine W.loop (fun (i : Nat) t H => ∃ F : AM.Frame, Bi [0, 10, 11, 12] t 0 = Qwv v v (.int .i64 ls.length) (.int .i64 i) /\ i <= ls.length /\ H = [F] /\ (F = [] \/ ∃ x, F = [(4, .cells x)]) /\ Qek (before ls i) (ls.drop i) = Qek none ls) (fun i => ls.length - i) ?_ 0 ⟨_, rfl, by omega, rfl, .inl rfl, rfl⟩ rfl
 rintro i t H ⟨F, ht, hi, rfl, hF, hR⟩
 have hd : ([F] : Heap).modify 0 (J8 fun s => [4].contains s) = [[]] := by
  rcases hF with rfl | ⟨x, rfl⟩ <;> rfl
 have vr : v.refs (fun f s => f == 0 && [4].contains s) = false := hv.noRefs _
 refine ⟨_, _, J4 (kt := [0, 10, 11, 12]) (ds := [4]) rfl ?_ ?_, ?_⟩
 . rw [ht]
   simp only [Qwv, Qx, V.refs, vr]; simp
 . rw [hd]
   simp only [Zh, Zo, O.refs, Qx, V.refs]; simp
 rw [ht, hd]
 simp only [Qwv]
 by_cases h : i < ls.length
 . have c1 : decide ((i : Int) < ls.length) = true := Znv (by omega)
   have at1 := hv.at (k := .i64) Tryz.underlying62 Qrw (by decide) (i := (i : Int)) (by omega) (by omega)
   obtain ⟨dv, hdv, ld⟩ := hc.ld h
   have sc := Qc8 hdv
   have ld1 : ∀ g, ldV Tryz.prog 96 g (.iptr cs ((i : Int).toNat * 13)) = _ := ld
   have w1 : (IntKind.i64).wrap ((i : Int) + 1) = ((i + 1 : Nat) : Int) := by rw [wrap_i64] <;> omega
   have hS : Qek (before ls i) (ls.drop i) = if decide (ls[i].id < 1) || (decide (ls[i].id > 255) || ((match before ls i with | some q => decide (ls[i].id <= q.id) | none => false) || ((ls[i].kind != 1) && (ls[i].kind != 2)))) then false else Qek (before ls (i + 1)) (ls.drop (i + 1)) := by
    rw [Znm h]
    have e : before ls (i + 1) = some ls[i] := by simp only [before, Zkv h]
    rw [e]; rfl
   rw [hR] at hS
   generalize hp : ls[i] = p at *
   obtain ⟨id, kind, owner, prev, txg, guid, key, root, dead⟩ := p
   obtain ⟨ra, rb, rc, rd, re⟩ := root
   simp only [Xg] at ld1
   simp only at hS
   generalize hnx : Qek (before ls (i + 1)) (ls.drop (i + 1)) = nx at hS
   cases i with
   | zero =>
     have c0 : decide (((0 : Nat) : Int) > 0) = false := rfl
     have hb0 : before ls 0 = none := rfl
     simp only [hb0] at hS
     simp only [Qn, Qh, Qg, Ql, Qa, Qd, nov, gd, rho, Qe, wr, Nat.reduceAdd, Nat.reduceSub, if_true, if_false, reduceIte, reduceCtorEq, Nat.reduceLT, Nat.reduceEqDiff, Nat.reduceMul, Nat.reduceLeDiff, Qj, Int.reduceBEq, Int.reduceBNe, Int.reduceLT, Int.reduceLE, ↓Qi, c1, at1, ld1, sc, c0, ta, new, Qb, hset, Qu, Qs, Qp, splice, zerosN, Qo, Qr, Qk, V.pure, Qq]
     repeat' ((first | refine W.guardF ?_ ?_ | refine W.guardT ?_ ?_ | refine W.guardXF ?_ ?_ | refine W.guardXT ?_ ?_ | refine W.ite ?_ ?_ | refine W.opsK1 (by kernel_rfl) ?_) <;> intro h <;> simp only [Qn, Qh, Qg, Ql, Qa, Qd, nov, gd, rho, Qe, wr, simprocAttr, Qj, ↓Qi, h, c0, ta, new, Qb, hset, Qu, Qs, Qp, splice, zerosN, Qo, Qr, Qk, V.pure, Qq])
     all_goals first
     | (refine W.done ?_
        simp only [Qn, Qh, Qg, Ql, Qa, Qd, nov, gd, rho, Qe, wr, simprocAttr, Qj, ↓Qi]
        refine W.done (Zx.ret rfl rfl ?_)
        rw [hS]
        simp only [*, Jz, if_true, if_false, okE]
        try rfl)
     | (try simp only [Qn, Qh, Qg, Ql, Qa, Qd, nov, gd, rho, Qe, wr, simprocAttr, Qj, ↓Qi, w1, (rfl : (IntKind.i64).wrap 1 = 1)]
        refine W.done ⟨0 + 1, ⟨_, rfl, by omega, rfl, .inr ⟨_, rfl⟩, ?_⟩, by omega⟩
        rw [hS, hnx]
        simp only [*, Jz, if_true, if_false]
        try rfl)
   | succ k =>
     have c0 : decide (((k + 1 : Nat) : Int) > 0) = true := Znv (by omega)
     have wk : (IntKind.i64).wrap (((k + 1 : Nat) : Int) - 1) = ((k : Nat) : Int) := by rw [wrap_i64] <;> omega
     have hk : k < ls.length := by omega
     have at2 := hv.at (k := .i64) Tryz.underlying62 Qrw (by decide) (i := (k : Int)) (by omega) (by omega)
     have hb : before ls (k + 1) = some ls[k] := by simp only [before, Zkv hk]
     obtain ⟨j1, _, _, _⟩ := hc.cells hk
     have j1' : cs[(k : Int).toNat * 13 + 0]? = _ := j1
     simp only [hb] at hS
     simp only [Qn, Qh, Qg, Ql, Qa, Qd, nov, gd, rho, Qe, wr, simprocAttr, Qj, ↓Qi, c1, at1, ld1, sc, c0, ta, new, Qb, hset, Qu, Qs, Qp, splice, zerosN, Qo, Qr, Qk, V.pure, Qq]
     repeat' ((first | refine W.guardF ?_ ?_ | refine W.guardT ?_ ?_ | refine W.guardXF ?_ ?_ | refine W.guardXT ?_ ?_ | refine W.ite ?_ ?_ | refine W.opsK1 (by kernel_rfl) ?_) <;> intro h <;> simp only [Qn, Qh, Qg, Ql, Qa, Qd, nov, gd, rho, Qe, wr, simprocAttr, Qj, ↓Qi, h, c0, wk, at2, j1', ta, new, Qb, hset, Qu, Qs, Qp, splice, zerosN, Qo, Qr, Qk, V.pure, Qq])
     all_goals first
     | (refine W.done ?_
        simp only [Qn, Qh, Qg, Ql, Qa, Qd, nov, gd, rho, Qe, wr, simprocAttr, Qj, ↓Qi]
        refine W.done (Zx.ret rfl rfl ?_)
        rw [hS]
        simp only [*, Jz, if_true, if_false, okE]
        try rfl)
     | (try simp only [Qn, Qh, Qg, Ql, Qa, Qd, nov, gd, rho, Qe, wr, simprocAttr, Qj, ↓Qi, w1, (rfl : (IntKind.i64).wrap 1 = 1)]
        refine W.done ⟨_, ⟨_, rfl, by omega, rfl, .inr ⟨_, rfl⟩, ?_⟩, by omega⟩
        rw [hS, hnx]
        simp only [*, Jz, if_true, if_false]
        try rfl)
 . have c1 : decide ((i : Int) < ls.length) = false := Znw (by omega)
   have hA : Qek none ls = true := by
    rw [<- hR, Zm2 (by omega)]
    cases hb : before ls i <;> rfl
   rw [hA, if_pos rfl]
   simp only [Qn, Qh, Qg, Ql, Qa, Qd, nov, gd, rho, Qe, wr, simprocAttr, Qj, ↓Qi, c1]
   refine W.done ?_
   simp only [Qn, Qh, Qg, Ql, Qa, Qd, nov, gd, rho, Qe, wr, simprocAttr, Qj, ↓Qi, len, ta, new, Qb, hset, Qu, Qs, Qp, splice, zerosN, Qo, Qr, Qk, V.pure, Qq]
   refine W.ul ?_
   refine W.loop (fun (i : Nat) t H => ∃ F : AM.Frame, Bi [0, 51, 52, 53] t 0 = Qtc v v (.int .i64 ls.length) (.int .i64 i) /\ i <= ls.length /\ H = [F] /\ ((F = [] \/ ∃ x, F = [(4, .cells x)]) \/ ∃ x, F = [(6, .cells x)]) /\ Qen ls (ls.drop i) = Qen ls ls) (fun i => ls.length - i) ?_ 0 ⟨_, rfl, by omega, rfl, .inl (.inl rfl), rfl⟩ rfl
   rintro i t H ⟨F, ht, hi, rfl, hF, hR⟩
   have hd : ([F] : Heap).modify 0 (J8 fun s => [4, 6].contains s) = [[]] := by
    rcases hF with (rfl | ⟨x, rfl⟩) | ⟨x, rfl⟩ <;> rfl
   have vr : v.refs (fun f s => f == 0 && [4, 6].contains s) = false := hv.noRefs _
   refine ⟨_, _, J4 (kt := [0, 51, 52, 53]) (ds := [4, 6]) rfl ?_ ?_, ?_⟩
   . rw [ht]
     simp only [Qtc, Qx, V.refs, vr]; simp
   . rw [hd]
     simp only [Zh, Zo, O.refs, Qx, V.refs]; simp
   rw [ht, hd]
   simp only [Qtc]
   by_cases h : i < ls.length
   . have c1 : decide ((i : Int) < ls.length) = true := Znv (by omega)
     have at1 := hv.at (k := .i64) Tryz.underlying62 Qrw (by decide) (i := (i : Int)) (by omega) (by omega)
     obtain ⟨dv, hdv, ld⟩ := hc.ld h
     have sc := Qc8 hdv
     have ld1 : ∀ g, ldV Tryz.prog 96 g (.iptr cs ((i : Int).toNat * 13)) = _ := ld
     have w1 : (IntKind.i64).wrap ((i : Int) + 1) = ((i + 1 : Nat) : Int) := by rw [wrap_i64] <;> omega
     have hS : Qen ls (ls.drop i) = if Qso ls ls[i] then false else Qen ls (ls.drop (i + 1)) := by
      rw [Znm h]; rfl
     rw [hR] at hS
     obtain ⟨m, rfl, hm⟩ := (Qck ls[i].root).op (by rfl) rfl
     have hm1 : ∀ s H, _ := fun s H => hm 34 0 s H rfl
     obtain ⟨m, rfl, hm⟩ := (Qrt dv ls[i].dead hdv).op (by rfl) (Qt (hdv.frz _) rfl)
     have hm2 : ∀ s H, _ := fun s H => hm 34 0 s H rfl
     obtain ⟨m, rfl, hm⟩ := (kin_fz v ls hv0 (by omega) ls[i] dv hdv).op (by rfl) (Qt (hv.frz _) (Qt (Qme hdv) rfl))
     have hm3 : ∀ s H, _ := fun s H => hm 34 0 s H rfl
     generalize hp : ls[i] = p at *
     obtain ⟨id, kind, owner, prev, txg, guid, key, root, dead⟩ := p
     obtain ⟨ra, rb, rc, rd, re⟩ := root
     simp only [Xg, Kl.cells] at ld1 hm1 hm2 hm3
     simp only [Qso] at hS
     generalize hnx : Qen ls (ls.drop (i + 1)) = nx at hS
     simp only [Qn, Qh, Qg, Ql, Qa, Qd, nov, gd, rho, Qe, wr, simprocAttr, Qj, ↓Qi, c1, at1, ld1, sc, hm1, hm2, hm3, Xa, ta, new, Qb, hset, Qu, Qs, Qp, splice, zerosN, Qo, Qr, Qk, V.pure, Qq]
     repeat' ((first | refine W.guardF ?_ ?_ | refine W.guardT ?_ ?_ | refine W.guardXF ?_ ?_ | refine W.guardXT ?_ ?_ | refine W.ite ?_ ?_ | refine W.opsK1 (by kernel_rfl) ?_) <;> intro h <;> simp only [Qn, Qh, Qg, Ql, Qa, Qd, nov, gd, rho, Qe, wr, simprocAttr, Qj, ↓Qi, h, hm1, hm2, hm3, Xa, sc, ta, new, Qb, hset, Qu, Qs, Qp, splice, zerosN, Qo, Qr, Qk, V.pure, Qq])
     all_goals first
      | (refine W.done ?_
         simp only [Qn, Qh, Qg, Ql, Qa, Qd, nov, gd, rho, Qe, wr, simprocAttr, Qj, ↓Qi]
         refine W.done (Zx.ret rfl rfl ?_)
         rw [hS]
         simp only [*, Jz, if_true, if_false, okE]
         try rfl)
      | (try simp only [Qn, Qh, Qg, Ql, Qa, Qd, nov, gd, rho, Qe, wr, simprocAttr, Qj, ↓Qi, w1, (rfl : (IntKind.i64).wrap 1 = 1)]
         refine W.done ⟨_, ⟨_, rfl, by omega, rfl, .inr ⟨_, rfl⟩, ?_⟩, by omega⟩
         rw [hS, hnx]
         simp only [*, Jz, if_true, if_false]
         try rfl)
   . have c1 : decide ((i : Int) < ls.length) = false := Znw (by omega)
     have hB : Qen ls ls = true := by
      rw [<- hR, Zm2 (by omega)]; rfl
     rw [hB]
     simp only [Qn, Qh, Qg, Ql, Qa, Qd, nov, gd, rho, Qe, wr, simprocAttr, Qj, ↓Qi, c1]
     refine W.done ?_
     simp only [Qn, Qh, Qg, Ql, Qa, Qd, nov, gd, rho, Qe, wr, simprocAttr, Qj, ↓Qi, len, ta, new, Qb, hset, Qu, Qs, Qp, splice, zerosN, Qo, Qr, Qk, V.pure, Qq]
     exact W.done (Zx.ret rfl rfl rfl)
end
section
set_option maxRecDepth 100000
open Go.AM
attribute [local irreducible] U W
set_option maxHeartbeats 8000000 in
theorem Qq5 (c : Jn) (dv : V) (hd : Qg7 dv c.n) : Fz Tryz.prog Qz 37 [.agg (Ji c dv)] fun x => x = .bool (Qdn c) := by
 refine Jy Tryz.func37 rfl ?_
 obtain ⟨cells, hd⟩ := hd
 have sc := Qc8 hd
 have len := Zq.len Tryz.underlying25 hd
 have hq := fun x y => Qqw (x := x) (y := y) c.laid Qec
 obtain ⟨m, rfl, hm⟩ := (Qck c.laid).op (by rfl) rfl
 have hm1 : ∀ s H, _ := fun s H => hm 37 0 s H rfl
 obtain ⟨set, obj, index, kind, links, size, n, laid⟩ := c
 simp only [Qdn]
 simp only at hq hm1
 generalize Qhe laid = po at *
 generalize decide (laid = Qec) = pz at *
 obtain ⟨a, b, c, d, e⟩ := laid
 simp only [Kl.cells, Qec] at hm1 hq
 simp only [Qn, Qh, Qg, Ql, Qa, Qd, nov, gd, rho, Qe, wr, simprocAttr, Qj, ↓Qi, Tryz.ntmps37, ta, new, Qb, hset, Qu, Qs, Qp, splice, zerosN, Qo, Qr, Qk, V.pure, Qq, Ji, sc, len, hq, hm1, Xa, Q3h]
 repeat' ((first | refine W.guardF ?_ ?_ | refine W.guardT ?_ ?_ | refine W.guardXF ?_ ?_ | refine W.guardXT ?_ ?_ | refine W.ite ?_ ?_ | refine W.opsK1 (by kernel_rfl) ?_) <;> intro h <;> simp only [Qn, Qh, Qg, Ql, Qa, Qd, nov, gd, rho, Qe, wr, simprocAttr, Qj, ↓Qi, h, hm1, hq, sc, len, Xa, Q3h, ta, new, Qb, hset, Qu, Qs, Qp, splice, zerosN, Qo, Qr, Qk, V.pure, Qq])
 all_goals refine W.done (Zx.ret rfl rfl ?_)
 all_goals first | rfl | (simp only [*, Jz, if_true, if_false]; try rfl)
end
section
set_option maxRecDepth 100000
open Go.AM
attribute [local irreducible] U W
theorem Q4g (a b : Jn) (av bv : V) (ha : Qg7 av a.n) (hb : Qg7 bv b.n) : Fz Tryz.prog Qz 38 [.agg (Ji a av), .agg (Ji b bv)] fun x => x = .int .i64 (Qjg a b) := by
 refine Jy Tryz.func38 rfl ?_
 obtain ⟨ca, ha⟩ := ha
 obtain ⟨cb, hb⟩ := hb
 have sa := Qc8 ha
 have sb := Qc8 hb
 obtain ⟨m, rfl, hm⟩ := (Xr a.set b.set).op (by rfl) rfl
 have hm1 : ∀ s H, _ := fun s H => hm 38 0 s H rfl
 obtain ⟨m, rfl, hm⟩ := (Xr a.obj b.obj).op (by rfl) rfl
 have hm2 : ∀ s H, _ := fun s H => hm 38 0 s H rfl
 obtain ⟨m, rfl, hm⟩ := (Xr a.index b.index).op (by rfl) rfl
 have hm3 : ∀ s H, _ := fun s H => hm 38 0 s H rfl
 obtain ⟨m, rfl, hm⟩ := (or_fz (.iS [.int .i64 (Qao a.set b.set), .int .i64 (Qao a.obj b.obj), .int .i64 (Qao a.index b.index)] 3 true) [Qao a.set b.set, Qao a.obj b.obj, Qao a.index b.index] (Bu.mk _ _) (by simp)).op (by rfl) rfl
 have hm4 : ∀ s H, _ := fun s H => hm 38 0 s H rfl
 have mt : Qz.mt 38 20 = false := by rfl
 simp only [Qn, Qh, Qg, Ql, Qa, Qd, nov, gd, rho, Qe, wr, simprocAttr, Qj, ↓Qi, Tryz.ntmps38, ta, new, Qb, hset, Qu, Qs, Qp, splice, zerosN, Qo, Qr, Qk, V.pure, Qq, Ji, sa, sb, hm1, hm2, hm3, hm4, Tryz.underlying46, sz3, zc3, Zld, Zml, Zl3, mt]
 repeat' ((first | refine W.guardF ?_ ?_ | refine W.guardT ?_ ?_ | refine W.guardXF ?_ ?_ | refine W.guardXT ?_ ?_ | refine W.ite ?_ ?_ | refine W.opsK1 (by kernel_rfl) ?_) <;> intro h <;> simp only [Qn, Qh, Qg, Ql, Qa, Qd, nov, gd, rho, Qe, wr, simprocAttr, Qj, ↓Qi, h, mt])
 all_goals refine W.done (Zx.ret rfl rfl ?_)
 all_goals first | rfl | (simp only [Qjg, *, Jz, if_true, if_false]; try rfl)
/-! ### Keys -/
theorem byt_u8 : byt Tryz.prog 5 = some 1 := by kernel_rfl
theorem tok_sl (mt : Nat -> Bool) (dst : Option Nat) (x : V) : Qi6 Tryz.prog mt dst 25 9 x = none := by
 cases dst <;> simp only [Qi6, Tryz.underlying25, Tryz.underlying9]
theorem Q44 (x y : V) (k l : List UInt8) (hx : Q1 x k) (hy : Q1 y l) : CW Tryz.prog Qz 70 [x, y] [] fun r _ => r = .ret (.bool (decide (k = l))) := by
 refine Xk Tryz.func70 rfl ?_
 have c1 := fun g => Qnq (P := Tryz.prog) (g := g) (s := 25) (d := 9) Tryz.underlying25 Tryz.underlying5 Tryz.underlying9 (Zq.sc (g := g) hx)
 have c2 := fun g => Qnq (P := Tryz.prog) (g := g) (s := 25) (d := 9) Tryz.underlying25 Tryz.underlying5 Tryz.underlying9 (Zq.sc (g := g) hy)
 simp only [Qn, Qh, Qg, Ql, Qa, Qd, nov, gd, rho, Qe, wr, simprocAttr, Qj, ↓Qi, Tryz.ntmps70, ta, new, Qb, hset, Qu, Qs, Qp, splice, zerosN, Qo, Qr, Qk, V.pure, Qq, c1, c2, tok_sl]
 refine W.done (End.ret (v := .bool (decide (k = l))) ?_ rfl)
 have e : (k == l) = decide (k = l) := by rw [Bool.eq_iff_iff]; simp
 rw [<- e]; rfl
theorem Q5v (x : V) (k : List UInt8) (hk : Q1 x k) (hl : k.length <= 9223372036854775807) (many : Int) (hm : many = 24 \/ many = 16) :
 CW Tryz.prog Qz 69 [x, .ptr 0 3 0] [[(3, .cells [.int .i64 many])], [], []] fun r H => r = .ret (.bool (Ba many k)) /\ H = [[(3, .cells [.int .i64 many])], [], []] := by
 refine Xk Tryz.func69 rfl ?_
 have len := Zq.len Tryz.underlying25 hk
 rcases hm with rfl | rfl
 . obtain ⟨r, H', e1, e2⟩ := Q44 x (.iS (Qc (List.replicate 24 0)) 24 true) k (List.replicate 24 0) hk (Q1.mk _ _)
   subst e2
   have hc : ∀ d, callOp Qz (Q5 Tryz.prog Qz) 69 3 d 70 [x, .mS 3 18 0 24 (some 24) 1] [[(3, .cells [.int .i64 24])], [], [], [(18, .cells (zerosN [.int .u8 0] 24))]] = some (.ret (.bool (decide (k = List.replicate 24 0))), _) :=
    fun d => Quy rfl rfl rfl rfl (Qt (Zq.frz hk _) (Qt rfl rfl)) e1 rfl
   have un := Tryz.underlying25
   have rm : Yw 24 1 = true := by rfl
   simp only [Qn, Qh, Qg, Ql, Qa, Qd, nov, gd, rho, Qe, wr, simprocAttr, Qj, ↓Qi, Tryz.ntmps69, ta, new, Qb, hset, Qu, Qs, Qp, splice, zerosN, Qo, Qr, Qk, V.pure, Qq, Zld, Zml, len]
   have t24 : Int.toNat 24 = 24 := rfl
   have t24' : (24 : Int) <= 24 := Int.le_refl _
   repeat' ((first | refine W.guardF ?_ ?_ | refine W.guardT ?_ ?_ | refine W.guardXF ?_ ?_ | refine W.guardXT ?_ ?_ | refine W.ite ?_ ?_ | refine W.opsK1 (by kernel_rfl) ?_) <;> intro h <;> simp only [Qn, Qh, Qg, Ql, Qa, Qd, nov, gd, rho, Qe, wr, simprocAttr, Qj, ↓Qi, h, ta, new, Qb, hset, Qu, Qs, Qp, len, un, sz5, zc5, byt_u8, rm, t24, hc, Int.le_refl, true_and, and_true, Zld, Zml, Nat.reduceLeDiff, Int.reduceLE])
   all_goals refine W.done (End.ret (v := .bool (Ba 24 k)) ?_ ⟨rfl, rfl⟩)
   all_goals simp only [Ba, *, Zmv, Zni, Bool.true_or, Bool.or_true, Zmx, Bool.or_false]
   all_goals rfl
 . simp only [Qn, Qh, Qg, Ql, Qa, Qd, nov, gd, rho, Qe, wr, simprocAttr, Qj, ↓Qi, Tryz.ntmps69, ta, new, Qb, hset, Qu, Qs, Qp, splice, zerosN, Qo, Qr, Qk, V.pure, Qq, Zld, Zml, len]
   have e : ((16 : Int) == 24) = false := rfl
   repeat' ((first | refine W.guardF ?_ ?_ | refine W.guardT ?_ ?_ | refine W.guardXF ?_ ?_ | refine W.guardXT ?_ ?_ | refine W.ite ?_ ?_ | refine W.opsK1 (by kernel_rfl) ?_) <;> intro h <;> simp only [Qn, Qh, Qg, Ql, Qa, Qd, nov, gd, rho, Qe, wr, simprocAttr, Qj, ↓Qi, h, ta, new, Qb, hset, Qu, Qs, Qp, len, e])
   all_goals refine W.done (End.ret (v := .bool (Ba 16 k)) ?_ ⟨rfl, rfl⟩)
   all_goals simp only [Ba, *, Zmv, Zni, Bool.true_or, Bool.or_true, Zmx, Bool.or_false]
   all_goals rfl
end
section
set_option maxRecDepth 100000
open Go.AM
attribute [local irreducible] U W
theorem Qxt (v : V) (l : List (List UInt8)) (cs : List V) (hc : Qi2 cs l) (hv : Zq 1 v cs l.length) (hl : l.length <= 9223372036854775807) (hk : ∀ k ∈ l, k.length <= 9223372036854775807) (many : Int) (hm : many = 24 \/ many = 16) :
 CW Tryz.prog Qz 130 [v, .func (.func 69) [] [.ptr 0 3 0]] [[(3, .cells [.int .i64 many])], []] fun r H => r = .ret (.int .i64 (Yb (Ba many) 0 l)) /\ H = [[(3, .cells [.int .i64 many])], []] := by
 refine Xk Tryz.func130 rfl ?_
 have len := hv.len Tryz.underlying53
 simp only [Qn, Qh, Qg, Ql, Qa, Qd, nov, gd, rho, Qe, wr, simprocAttr, Qj, ↓Qi, Tryz.ntmps130, ta, new, Qb, hset, Qu, Qs, Qp, splice, zerosN, Qo, Qr, Qk, V.pure, Qq, Zld, Zml, len]
 refine W.ul ?_
 refine W.loopS (kt := [0, 1, 7, 8]) rfl (fun i : Nat => Qy0 v (.func (.func 69) [] [.ptr 0 3 0]) (.int .i64 l.length) (.int .i64 i)) (fun _ => [[(3, .cells [.int .i64 many])], [], []]) (fun i => i <= l.length /\ Yb (Ba many) i (l.drop i) = Yb (Ba many) 0 l) (fun i => l.length - i) ?_ 0 ⟨by omega, rfl⟩ rfl rfl
 rintro i ⟨hi, hR⟩
 simp only [Qy0]
 by_cases h : i < l.length
 . have c1 : decide ((i : Int) < l.length) = true := Znv (by omega)
   have at1 := hv.at (k := .i64) Tryz.underlying53 Qjk (by decide) (i := (i : Int)) (by omega) (by omega)
   obtain ⟨x, g0, hx⟩ := hc.at_ h
   have g1 : cs[(i : Int).toNat * 1]? = some x := by simpa using g0
   have g1' : cs[(i : Int).toNat]? = some x := by simpa using g0
   have w1 : (IntKind.i64).wrap ((i : Int) + 1) = ((i + 1 : Nat) : Int) := by rw [wrap_i64] <;> omega
   obtain ⟨r, H', e1, e2, rfl⟩ := Q5v x l[i] hx (hk _ (List.getElem_mem h)) many hm
   subst e2
   have hcall : ∀ d, callOp Qz (Q5 Tryz.prog Qz) 130 2 d 69 [x, .ptr 0 3 0] [[(3, .cells [.int .i64 many])], [], []] = _ := fun d => Kx rfl rfl rfl e1
   have hS : Yb (Ba many) i (l.drop i) = if Ba many l[i] then (i : Int) else Yb (Ba many) (i + 1) (l.drop (i + 1)) := by
    rw [Znm h]; rfl
   rw [hR] at hS
   simp only [Qn, Qh, Qg, Ql, Qa, Qd, nov, gd, rho, Qe, wr, simprocAttr, Qj, ↓Qi, c1, at1, rd25, g1, g1', hcall, ta, new, Qb, hset, Qu, Qs, Qp, splice, zerosN, Qo, Qr, Qk, V.pure, Qq, Zmj, Zmm]
   refine W.ite ?_ ?_ <;> intro h2 <;> simp only [Qn, Qh, Qg, Ql, Qa, Qd, nov, gd, rho, Qe, wr, simprocAttr, Qj, ↓Qi, ta, new, Qb, hset, Qu, Qs, Qp, w1]
   . refine W.done ?_
     simp only [Qn, Qh, Qg, Ql, Qa, Qd, nov, gd, rho, Qe, wr, simprocAttr, Qj, ↓Qi]
     refine W.done (End.ret (v := .int .i64 (Yb (Ba many) 0 l)) ?_ ⟨rfl, rfl⟩)
     rw [hS, h2]; rfl
   . refine W.done ⟨i + 1, rfl, rfl, ⟨by omega, ?_⟩, by omega⟩
     rw [hS, h2]; rfl
 . have c1 : decide ((i : Int) < l.length) = false := Znw (by omega)
   simp only [Qn, Qh, Qg, Ql, Qa, Qd, nov, gd, rho, Qe, wr, simprocAttr, Qj, ↓Qi, c1]
   refine W.done ?_
   simp only [Qn, Qh, Qg, Ql, Qa, Qd, nov, gd, rho, Qe, wr, simprocAttr, Qj, ↓Qi]
   refine W.done (End.ret (v := .int .i64 (Yb (Ba many) 0 l)) ?_ ⟨rfl, rfl⟩)
   rw [<- hR, Zm2 (by omega)]; rfl
theorem Qti (v : V) (l : List (List UInt8)) (cs : List V) (hc : Qi2 cs l) (hv : Zq 1 v cs l.length) (hl : l.length <= 9223372036854775807) (hk : ∀ k ∈ l, k.length <= 9223372036854775807) (many : Int) (hm : many = 24 \/ many = 16) :
 CW Tryz.prog Qz 71 [v, .func (.func 69) [] [.ptr 0 3 0]] [[(3, .cells [.int .i64 many])]] fun r H => r = .ret (.bool (l.any (Ba many))) /\ H = [[(3, .cells [.int .i64 many])]] := by
 refine Xk Tryz.func71 rfl ?_
 obtain ⟨r, H', e1, e2, rfl⟩ := Qxt v l cs hc hv hl hk many hm
 subst e2
 have hcall : ∀ d, callOp Qz (Q5 Tryz.prog Qz) 71 1 d 130 [v, .func (.func 69) [] [.ptr 0 3 0]] [[(3, .cells [.int .i64 many])], []] = _ := fun d => Kx rfl rfl rfl e1
 simp only [Qn, Qh, Qg, Ql, Qa, Qd, nov, gd, rho, Qe, wr, simprocAttr, Qj, ↓Qi, Tryz.ntmps71, ta, new, Qb, hset, Qu, Qs, Qp, splice, zerosN, Qo, Qr, Qk, V.pure, Qq, Zld, Zml, Zmj, Zmm, hcall, Qk3]
 exact W.done (End.ret (v := .bool (l.any (Ba many))) rfl ⟨rfl, rfl⟩)
theorem Qnb (v : V) (l : List (List UInt8)) (hv : Qjd v l) (hl : l.length <= 9223372036854775807) (hk : ∀ k ∈ l, k.length <= 9223372036854775807) (many : Int) (hm : many = 24 \/ many = 16) :
 Fz Tryz.prog Qz 35 [v, .int .i64 many] fun x => x = .bool (Qcv l many) := by
 refine Jy Tryz.func35 rfl ?_
 obtain ⟨cs, hc, hv⟩ := hv
 have len := hv.len Tryz.underlying53
 obtain ⟨r, H', e1, e2, rfl⟩ := Qti v l cs hc hv hl hk many hm
 subst e2
 have hcall : ∀ d, callOp Qz (Q5 Tryz.prog Qz) 35 0 d 71 [v, .func (.func 69) [] [.ptr 0 3 0]] [[(3, .cells [.int .i64 many])]] = _ := fun d => Kx rfl rfl rfl e1
 simp only [Qn, Qh, Qg, Ql, Qa, Qd, nov, gd, rho, Qe, wr, simprocAttr, Qj, ↓Qi, Tryz.ntmps35, ta, new, Qb, hset, Qu, Qs, Qp, splice, zerosN, Qo, Qr, Qk, V.pure, Qq, len, hcall]
 repeat' ((first | refine W.guardF ?_ ?_ | refine W.guardT ?_ ?_ | refine W.guardXF ?_ ?_ | refine W.guardXT ?_ ?_ | refine W.ite ?_ ?_ | refine W.opsK1 (by kernel_rfl) ?_) <;> intro h <;> simp only [Qn, Qh, Qg, Ql, Qa, Qd, nov, gd, rho, Qe, wr, simprocAttr, Qj, ↓Qi, h, ta, new, Qb, hset, Qu, Qs, Qp, len, hcall])
 all_goals refine W.done (Zx.ret rfl rfl ?_)
 all_goals first | rfl | (simp only [Qcv, *, Jz, if_true, if_false]; try rfl)
end
end Go.Proofs.YteagpfbdmiihaaaGreatDoor
