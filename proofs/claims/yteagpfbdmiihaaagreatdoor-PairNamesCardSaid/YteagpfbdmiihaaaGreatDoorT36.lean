/- This file holds in one the texts E9, E10, E11, E12; each says at its head what it proves. -/
import Derived.Test.YteagpfbdmiihaaaGreatDoorT31
import Derived.Test.YteagpfbdmiihaaaGreatDoorT35
set_option linter.unusedSimpArgs false
set_option linter.unusedVariables false
namespace Go.Proofs.YteagpfbdmiihaaaGreatDoor
section
set_option maxRecDepth 100000
open Go.AM
attribute [local irreducible] U W
theorem Q7l (C : AM.Call) (fn fr : Nat) (d : Option Nat) (H : Heap) (v : V) (l : List UInt8) (hv : Q1 v l) (c : UInt8) :
 callOp Qz C fn fr d 222 [v, .int .u8 c.toNat] H = some (.ret (.int .i64 (l.count c)), H) := by
 have e : Qz.prim 222 = some Ki := rfl
 simp only [callOp, e, Ki, hv.bytesV, Zkw, wr, Lib.countByte]
 simp
theorem max_fz (v : V) (b : UInt8) (l : List UInt8) (hv : Q1 v (b :: l)) (hl : l.length + 1 <= 281474976710656) :
 Fz Tryz.prog Qz 127 [v] fun r => r = .int .u8 (Ke b.toNat l) := by
 obtain ⟨r, H, e1, rfl⟩ := Q35 v b l hv hl
 exact ⟨_, _, _, e1, rfl, rfl⟩
theorem Q34 (v w : V) (l : List UInt8) (c : UInt8) (hv : Q1 v l) (hw : Q1 w [c]) :
 Fz Tryz.prog Qz 128 [v, w] fun r => r = .int .i64 (l.count c) := by
 refine Jy Tryz.func128 rfl ?_
 have len := hw.len Tryz.underlying25
 have at0 := hw.at (k := .i64) Tryz.underlying25 sz5 (by decide) (i := 0) (by omega) (by simp)
 have get0 : (Qc [c])[(0 : Int).toNat * 1]? = some (.int .u8 c.toNat) := rfl
 have c1 : ((([c] : List UInt8).length : Int) == 0) = false := rfl
 have c2 : ((([c] : List UInt8).length : Int) == 1) = true := rfl
 have ct : ∀ d, callOp Qz (Q5 Tryz.prog Qz) 128 0 d 222 [v, .int .u8 c.toNat] [[]] = some (.ret (.int .i64 (l.count c)), [[]]) := fun d => Q7l _ _ _ _ _ v l hv c
 generalize hn : ([c] : List UInt8).length = n at *
 simp only [Qn, Qh, Qg, Ql, Qa, Qd, nov, gd, rho, Qe, wr, Nat.reduceAdd, Nat.reduceSub, if_true, if_false, reduceIte, reduceCtorEq, Nat.reduceLT, Nat.reduceEqDiff, Nat.reduceMul, Nat.reduceLeDiff, Qj, Int.reduceBEq, Int.reduceBNe, Int.reduceLT, Int.reduceLE, ↓Qi, ta, new, Qb, hset, Qu, Qs, Qp, Tryz.ntmps128, len, at0, rd5, get0, c1, c2, ct]
 exact W.done (Zx.ret rfl rfl rfl)
theorem Qlt (n : Int) : ∀ (l : List UInt8) (m : Int), Ke m l <= n ↔ m <= n /\ ∀ b ∈ l, (b.toNat : Int) <= n
 | [], m => by simp [Ke]
 | b :: l, m => by
   have e : Ke m (b :: l) = Ke (if (b.toNat : Int) > m then b.toNat else m) l := rfl
   rw [e, Qlt n l]
   split
   . constructor
     . rintro ⟨h1, h2⟩; exact ⟨by omega, by simpa using ⟨h1, h2⟩⟩
     . rintro ⟨h1, h2⟩; simp at h2; exact ⟨h2.1, h2.2⟩
   . constructor
     . rintro ⟨h1, h2⟩; exact ⟨h1, by simp; exact ⟨by omega, h2⟩⟩
     . rintro ⟨h1, h2⟩; simp at h2; exact ⟨h1, h2.2⟩
theorem Qpo (v : V) (l : List UInt8) (hv : Q1 v l) :
 Fz Tryz.prog Qz 66 [v] fun r => r = .int .i64 (if Qah l then 0 else 8) := by
 refine Jy Tryz.func66 rfl ?_
 have len := hv.len Tryz.underlying25
 simp only [Qn, Qh, Qg, Ql, Qa, Qd, nov, gd, rho, Qe, wr, simprocAttr, Qj, ↓Qi, ta, new, Qb, hset, Qu, Qs, Qp, Tryz.ntmps66, len]
 by_cases h1 : l.length = 256
 . have c1 : ((l.length : Int) != 256) = false := by simp [h1]
   match l, h1 with
   | b :: l', h1 =>
   obtain ⟨m, rfl, hm⟩ := (max_fz v b l' hv (by simp at h1; omega)).op (by rfl) (Qt (hv.frz _) rfl)
   have hm' : ∀ d, _ := fun d => hm 66 0 d [[]] rfl
   generalize hL : b :: l' = L at *
   obtain ⟨w, hw, hw'⟩ := hv.cut Tryz.underlying25 sz5 none (some 12) (by simp) (by simp) (by simp; omega)
   simp only [Zmf, Zkw] at hw
   have bs : Q1 (.iS [.int .u8 1] 1 true) [1] := Q1.mk [1] true
   obtain ⟨m, rfl, hc⟩ := (Q34 _ _ _ 1 hw' bs).op (by rfl) (Qt (hw'.frz _) (Qt (bs.frz _) rfl))
   have hc' : ∀ d, _ := fun d => hc 66 0 d [[]] rfl
   have e1 : L.take 12 = (List.drop ((none : Option Int).getD 0).toNat L).take (((some 12 : Option Int).getD L.length).toNat - ((none : Option Int).getD 0).toNat) := rfl
   rw [<- e1] at hc'
   have e2 : Ke b.toNat l' <= 2 ↔ (L.all fun b => b <= 2) = true := by
    rw [Qlt, <- hL]
    simp only [List.all_cons, Zlm, decide_eq_true_eq, Zln, le2]
   have z1 : zeroCells Tryz.prog 5 = some [.int .u8 0] := zc5
   simp only [Qn, Qh, Qg, Ql, Qa, Qd, nov, gd, rho, Qe, wr, simprocAttr, Qj, ↓Qi, ta, new, Qb, hset, Qu, Qs, Qp, c1, hm']
   refine W.guard (fun g1 => ?_) (fun g1 => ?_)
   . have g2 : Ke b.toNat l' <= 2 := by have := of_decide_eq_false g1; omega
     have g3 : Qah L = ((L.take 12).count 1 == 12) := by simp only [Qah, h1, beq_self_eq_true, Zmv, e2.1 g2]
     have mt0 : ∀ s, Qz.mt 66 s = false := fun s => rfl
     simp only [Qn, Qh, Qg, Ql, Qa, Qd, nov, gd, rho, Qe, wr, simprocAttr, Qj, ↓Qi, ta, new, Qb, hset, Qu, Qs, Qp, g1, hw, Tryz.underlying25, sz5, z1, mt0, hc', splice, zerosN, Qo, Qr, Qk, V.pure, Qq]
     refine W.ite (fun g4 => ?_) (fun g4 => ?_)
     . simp only [Qn, Qh, Qg, Ql, Qa, Qd, nov, gd, rho, Qe, wr, simprocAttr, Qj, ↓Qi, ta, new, Qb, hset, Qu, Qs, Qp]
       refine W.done (Zx.ret rfl rfl ?_)
       have g5 := bne_iff_ne.1 g4
       have g6 : (List.count 1 (List.take 12 L) == 12) = false := beq_false_of_ne fun e => g5 (by rw [e]; rfl)
       show V.int .i64 8 = _
       rw [g3, g6]
       rfl
     . simp only [Qn, Qh, Qg, Ql, Qa, Qd, nov, gd, rho, Qe, wr, simprocAttr, Qj, ↓Qi, ta, new, Qb, hset, Qu, Qs, Qp]
       refine W.done (Zx.ret rfl rfl ?_)
       have g5 : ((List.count 1 (List.take 12 L) : Nat) : Int) = 12 := by simpa using g4
       have g6 : (List.count 1 (List.take 12 L) == 12) = true := beq_iff_eq.2 (by omega)
       show V.int .i64 0 = _
       rw [g3, g6]
       rfl
   . have g2 : ¬ Ke b.toNat l' <= 2 := by have := of_decide_eq_true g1; omega
     have g3 : Qah L = false := by
      have : (L.all fun b => b <= 2) = false := Znd.2 fun h => g2 (e2.2 h)
      simp only [Qah, this, Bool.and_false, Zni]
     simp only [Qn, Qh, Qg, Ql, Qa, Qd, nov, gd, rho, Qe, wr, simprocAttr, Qj, ↓Qi, ta, new, Qb, hset, Qu, Qs, Qp, g1]
     refine W.done (Zx.ret rfl rfl ?_)
     rw [g3]; rfl
 . have c1 : ((l.length : Int) != 256) = true := by simp; omega
   have e : Qah l = false := by simp [Qah, h1]
   simp only [Qn, Qh, Qg, Ql, Qa, Qd, nov, gd, rho, Qe, wr, simprocAttr, Qj, ↓Qi, ta, new, Qb, hset, Qu, Qs, Qp, c1]
   exact W.done (Zx.ret rfl rfl (by rw [e]; rfl))
end
section
set_option maxRecDepth 100000
open Go.AM
attribute [local irreducible] U W
theorem Qop (bv wv sv : V) (d : Int) (hd : Fz Tryz.prog Qz 65 [.agg [bv, wv]] fun x => x = .int .i64 d) (hf : frz (fun _ _ => none) depth (.agg [bv, wv]) = some (.agg [bv, wv])) (sb : bv.scalar = true) (sw : wv.scalar = true)
 (space : List UInt8) (hs : Q1 sv space) (epoch count : Int) :
 Fz Tryz.prog Qz 32 [.agg [bv, wv, sv, .int .u32 epoch, .int .u32 count]] fun x => x = .int .i64 (okE (Qd5 d (Qah space) epoch count)) := by
 refine Jy Tryz.func32 rfl ?_
 have ss := Qc8 hs
 obtain ⟨m, rfl, hm⟩ := hd.op (by rfl) (Qt hf rfl)
 have hm1 : ∀ s H, _ := fun s H => hm 32 0 s H rfl
 obtain ⟨m, rfl, hm⟩ := (Qpo sv space hs).op (by rfl) (Qt (hs.frz _) rfl)
 have hm2 : ∀ s H, _ := fun s H => hm 32 0 s H rfl
 simp only [okE_if] at hm2
 simp only [Qn, Qh, Qg, Ql, Qa, Qd, nov, gd, rho, Qe, wr, simprocAttr, Qj, ↓Qi, Tryz.ntmps32, ta, new, Qb, hset, Qu, Qs, Qp, splice, zerosN, Qo, Qr, Qk, V.pure, Qq, sb, sw, ss, hm1, hm2, Xa]
 repeat' ((first | refine W.guardF ?_ ?_ | refine W.guardT ?_ ?_ | refine W.guardXF ?_ ?_ | refine W.guardXT ?_ ?_ | refine W.ite ?_ ?_ | refine W.opsK1 (by kernel_rfl) ?_) <;> intro h <;> simp only [Qn, Qh, Qg, Ql, Qa, Qd, nov, gd, rho, Qe, wr, simprocAttr, Qj, ↓Qi, h, ta, new, Qb, hset, Qu, Qs, Qp, splice, zerosN, Qo, Qr, Qk, V.pure, Qq, sb, sw, ss, hm1, hm2, Xa])
 all_goals refine W.done (Zx.ret rfl rfl ?_)
 all_goals first | rfl | (simp only [okE, Qd5, *, Jz, if_true, if_false]; try rfl)
/-! ### Numbers given out -/
theorem Q1w (F : AM.Frame) (pc : List V) (hw : Zo (fun f _ => Nat.ble 1 f) F = true) (hF : Qu F 1 = some (.cells pc)) (hpl : pc.length = 19) (nid ng : Int) (h17 : pc[17]? = some (.int .i64 nid)) (h18 : pc[18]? = some (.int .u32 ng)) (l : Jo) (dv : V) (hd : Qd0 dv l.dead) :
 CW Tryz.prog Qz 40 [.agg (Xg l dv), .ptr 0 1 0] [F, [], []] fun r H => r = .ret (.bool (Yh nid ng l)) /\ H = [F, [], []] := by
 refine Xk Tryz.func40 rfl ?_
 have sc := Qc8 hd
 obtain ⟨id, kind, owner, prev, txg, guid, key, root, dead⟩ := l
 obtain ⟨ra, rb, rc, rd, re⟩ := root
 simp only [Xg]
 simp only [Qn, Qh, Qg, Ql, Qa, Qd, nov, gd, rho, Qe, wr, simprocAttr, Qj, ↓Qi, Tryz.ntmps40, ta, new, Qb, hset, Qu, Qs, Qp, splice, zerosN, Qo, Qr, Qk, V.pure, Qq, Zld, Zml, Zmj, Zmm, sc, hF, h17, h18]
 repeat' ((first | refine W.guardF ?_ ?_ | refine W.guardT ?_ ?_ | refine W.guardXF ?_ ?_ | refine W.guardXT ?_ ?_ | refine W.ite ?_ ?_ | refine W.opsK1 (by kernel_rfl) ?_) <;> intro h <;> simp only [Qn, Qh, Qg, Ql, Qa, Qd, nov, gd, rho, Qe, wr, simprocAttr, Qj, ↓Qi, h, ta, new, Qb, hset, Qu, Qs, Qp, sc, hF, h17, h18])
 all_goals refine W.done (End.ret (v := .bool (Yh nid ng ⟨id, kind, owner, prev, txg, guid, key, ⟨ra, rb, rc, rd, re⟩, dead⟩)) ?_ ⟨rfl, pop3 rfl hw⟩)
 all_goals simp only [Yh, *, Zmv, Zni, Bool.true_or, Bool.or_true, Zmx, Bool.or_false]
 all_goals rfl
theorem Qt4 (v : V) (l : List Jo) (cs : List V) (hc : LinesC cs l) (hv : Zq 13 v cs l.length) (hl : l.length <= 9223372036854775807) (F : AM.Frame) (pc : List V) (hw : Zo (fun f _ => Nat.ble 1 f) F = true) (hF : Qu F 1 = some (.cells pc)) (hpl : pc.length = 19) (nid ng : Int) (h17 : pc[17]? = some (.int .i64 nid)) (h18 : pc[18]? = some (.int .u32 ng)) :
 CW Tryz.prog Qz 76 [v, .func (.func 40) [] [.ptr 0 1 0]] [F, []] fun r H => r = .ret (.int .i64 (Yb (Yh nid ng) 0 l)) /\ H = [F, []] := by
 refine Xk Tryz.func76 rfl ?_
 have len := hv.len Tryz.underlying62
 simp only [Qn, Qh, Qg, Ql, Qa, Qd, nov, gd, rho, Qe, wr, simprocAttr, Qj, ↓Qi, Tryz.ntmps76, ta, new, Qb, hset, Qu, Qs, Qp, splice, zerosN, Qo, Qr, Qk, V.pure, Qq, Zld, Zml, len]
 refine W.ul ?_
 refine W.loopS (kt := [0, 1, 7, 8]) rfl (fun i : Nat => Q21 v (.func (.func 40) [] [.ptr 0 1 0]) (.int .i64 l.length) (.int .i64 i)) (fun _ => [F, [], []]) (fun i => i <= l.length /\ Yb (Yh nid ng) i (l.drop i) = Yb (Yh nid ng) 0 l) (fun i => l.length - i) ?_ 0 ⟨by omega, rfl⟩ rfl rfl
 rintro i ⟨hi, hR⟩
 simp only [Q21]
 by_cases h : i < l.length
 . have c1 : decide ((i : Int) < l.length) = true := Znv (by omega)
   have at1 := hv.at (k := .i64) Tryz.underlying62 Qrw (by decide) (i := (i : Int)) (by omega) (by omega)
   obtain ⟨dv, hdv, ld⟩ := hc.ld h
   have ld1 : ∀ g, ldV Tryz.prog 96 g (.iptr cs ((i : Int).toNat * 13)) = _ := ld
   have w1 : (IntKind.i64).wrap ((i : Int) + 1) = ((i + 1 : Nat) : Int) := by rw [wrap_i64] <;> omega
   obtain ⟨r, H', e1, e2, rfl⟩ := Q1w F pc hw hF hpl nid ng h17 h18 l[i] dv hdv
   subst e2
   have hcall : ∀ d, callOp Qz (Q5 Tryz.prog Qz) 76 2 d 40 [.agg (Xg l[i] dv), .ptr 0 1 0] [F, [], []] = _ := fun d => Kx rfl rfl rfl e1
   have hS : Yb (Yh nid ng) i (l.drop i) = if Yh nid ng l[i] then (i : Int) else Yb (Yh nid ng) (i + 1) (l.drop (i + 1)) := by
    rw [Znm h]; rfl
   rw [hR] at hS
   simp only [Qn, Qh, Qg, Ql, Qa, Qd, nov, gd, rho, Qe, wr, simprocAttr, Qj, ↓Qi, c1, at1, ld1, hcall, ta, new, Qb, hset, Qu, Qs, Qp, splice, zerosN, Qo, Qr, Qk, V.pure, Qq, Zmj, Zmm]
   refine W.ite ?_ ?_ <;> intro h2 <;> simp only [Qn, Qh, Qg, Ql, Qa, Qd, nov, gd, rho, Qe, wr, simprocAttr, Qj, ↓Qi, ta, new, Qb, hset, Qu, Qs, Qp, w1]
   . refine W.done ?_
     simp only [Qn, Qh, Qg, Ql, Qa, Qd, nov, gd, rho, Qe, wr, simprocAttr, Qj, ↓Qi]
     refine W.done (End.ret (v := .int .i64 (Yb (Yh nid ng) 0 l)) ?_ ⟨rfl, pop2 rfl hw⟩)
     rw [hS, h2]; rfl
   . refine W.done ⟨i + 1, rfl, rfl, ⟨by omega, ?_⟩, by omega⟩
     rw [hS, h2]; rfl
 . have c1 : decide ((i : Int) < l.length) = false := Znw (by omega)
   simp only [Qn, Qh, Qg, Ql, Qa, Qd, nov, gd, rho, Qe, wr, simprocAttr, Qj, ↓Qi, c1]
   refine W.done ?_
   simp only [Qn, Qh, Qg, Ql, Qa, Qd, nov, gd, rho, Qe, wr, simprocAttr, Qj, ↓Qi]
   refine W.done (End.ret (v := .int .i64 (Yb (Yh nid ng) 0 l)) ?_ ⟨rfl, pop2 rfl hw⟩)
   rw [<- hR, Zm2 (by omega)]; rfl
theorem Qrn (v : V) (l : List Jo) (cs : List V) (hc : LinesC cs l) (hv : Zq 13 v cs l.length) (hl : l.length <= 9223372036854775807) (F : AM.Frame) (pc : List V) (hw : Zo (fun f _ => Nat.ble 1 f) F = true) (hF : Qu F 1 = some (.cells pc)) (hpl : pc.length = 19) (nid ng : Int) (h17 : pc[17]? = some (.int .i64 nid)) (h18 : pc[18]? = some (.int .u32 ng)) :
 CW Tryz.prog Qz 39 [v, .func (.func 40) [] [.ptr 0 1 0]] [F] fun r H => r = .ret (.bool (l.any (Yh nid ng))) /\ H = [F] := by
 refine Xk Tryz.func39 rfl ?_
 obtain ⟨r, H', e1, e2, rfl⟩ := Qt4 v l cs hc hv hl F pc hw hF hpl nid ng h17 h18
 subst e2
 have hcall : ∀ d, callOp Qz (Q5 Tryz.prog Qz) 39 1 d 76 [v, .func (.func 40) [] [.ptr 0 1 0]] [F, []] = _ := fun d => Kx rfl rfl rfl e1
 simp only [Qn, Qh, Qg, Ql, Qa, Qd, nov, gd, rho, Qe, wr, simprocAttr, Qj, ↓Qi, Tryz.ntmps39, ta, new, Qb, hset, Qu, Qs, Qp, splice, zerosN, Qo, Qr, Qk, V.pure, Qq, Zld, Zml, Zmj, Zmm, hcall, Qk3]
 exact W.done (End.ret (v := .bool (l.any (Yh nid ng))) rfl ⟨rfl, pop1 rfl hw⟩)
end
section
set_option maxRecDepth 100000
open Go.AM
attribute [local irreducible] U W
theorem _root_.Go.AM.ChangesC.ld {ls : List Jn} {cs : List V} {i : Nat} (h : ChangesC cs ls) (hi : i < ls.length) : ∃ dv, Qg7 dv ls[i].n /\ (∀ g, ldV Tryz.prog 91 g (.iptr cs (i * 12)) = some (.agg (Ji ls[i] dv))) := by
 obtain ⟨dv, h1, h2⟩ := h.at_ (Zkv hi)
 refine ⟨dv, h2, fun g => ?_⟩
 show Q0 Tryz.prog 91 cs (i * 12) = _
 have := h.len
 rw [rd91, if_pos (by omega), h1]
structure Q54 (bv wv sv mv lv kv ov cv : V) (d : Int) (space : List UInt8) (p : Qkm) : Prop where
 dev : Fz Tryz.prog Qz 65 [.agg [bv, wv]] fun x => x = .int .i64 d
 frz : frz (fun _ _ => none) depth (.agg [bv, wv]) = some (.agg [bv, wv])
 frz0 : ∀ g m, AM.frz g (m + 10) bv = some bv /\ AM.frz g (m + 10) wv = some wv
 nr : ∀ q, bv.refs q = false /\ wv.refs q = false
 sb : bv.scalar = true
 sw : wv.scalar = true
 space : Q1 sv space
 own : Bu mv p.own
 lines : Qgp lv p.lines
 keys : Qjd kv p.keys
 loaded : Qjd ov p.loaded
 changes : Qdk cv p.changes
 fit : p.own.length <= 9223372036854775807 /\ p.lines.length <= 9223372036854775807 /\ p.changes.length <= 9223372036854775807 /\ p.keys.length <= 9223372036854775807 /\ p.loaded.length <= 9223372036854775807 /\ (∀ k ∈ p.keys, k.length <= 9223372036854775807) /\ (∀ k ∈ p.loaded, k.length <= 9223372036854775807)
end
section
set_option maxRecDepth 100000
open Go.AM
attribute [local irreducible] U W
theorem Qa1 (x y : Operand) (a b : Bool) : Z1 Tryz.prog .neq 4 x y (.bool a) (.bool b) = some (.bool (a != b)) := by
 have hg : (Tryz.prog).eqGuardType (Tryz.prog).depth 4 = false := by kernel_rfl
 simp only [Z1, Qjf, Tryz.underlying4, hg, eqV, Zkz, if_false]
 cases a <;> cases b <;> rfl
set_option maxHeartbeats 16000000 in
theorem Q3i {bv wv sv mv lv kv ov cv : V} {d : Int} {space : List UInt8} {p : Qkm} (hp : Q54 bv wv sv mv lv kv ov cv d space p) : Fz Tryz.prog Qz 18 [.agg (Q4s bv wv sv mv lv kv ov cv p)] fun x => x = .int .i64 (okE (Qwy d (Qah space) (Qet space) p)) := by
 refine Jy Tryz.func18 rfl ?_
 obtain ⟨hdev, hfrz, hfr0, hnr, sb, sw, hspace, hown, ⟨lcs, hlc, hlv⟩, hkeys, hload, ⟨ccs, hcc, hcv⟩, f1, f2, f3, f4, f5, f6, f7⟩ := hp
 have ss := Qc8 hspace
 have sm := Qc8 hown
 have sl := Qc8 hlv
 obtain ⟨kcs, hkc, hkv⟩ := hkeys
 have sk := Qc8 hkv
 obtain ⟨ocs, hoc, hov⟩ := hload
 have so := Qc8 hov
 have sc := Qc8 hcv
 obtain ⟨epoch, count, gen, root, own, lines, keys, loaded, changes, logged, nid, ng⟩ := p
 simp only at *
 obtain ⟨m, rfl, hm⟩ := (Qop bv wv sv d hdev hfrz sb sw space hspace epoch count).op (by rfl) (by
  refine Qt ?_ rfl
  have e : Zb (frz (fun _ _ => none) 11) [bv, wv, sv, .int .u32 epoch, .int .u32 count] = some [bv, wv, sv, .int .u32 epoch, .int .u32 count] :=
   Qt (hfr0 _ 1).1 (Qt (hfr0 _ 1).2 (Qt (Zq.frz hspace _) rfl))
  show Option.map V.agg (Zb (frz _ 11) _) = _
  rw [e]; rfl)
 have hm1 : ∀ s H, _ := fun s H => hm 18 0 s H rfl
 obtain ⟨m, rfl, hm⟩ := (Qck root).op (by rfl) rfl
 have hm2 : ∀ s H, _ := fun s H => hm 18 0 s H rfl
 have hq := fun x y => Qqw (x := x) (y := y) root Qec
 have len := hown.len Tryz.underlying46
 have hD : ∀ r, okE (Qwy d (Qah space) (Qet space) ⟨epoch, count, gen, r, own, lines, keys, loaded, changes, logged, nid, ng⟩) = okE (if Qr1 d (Qah space) ⟨epoch, count, gen, r, own, lines, keys, loaded, changes, logged, nid, ng⟩ then false else if Qgy (Qet space) none own then (if Qx4 ⟨epoch, count, gen, r, own, lines, keys, loaded, changes, logged, nid, ng⟩ then false else if Qob lines none changes then !(lines.any (Yh nid ng)) else false) else false) := fun r => rfl
 rw [hD]
 have hH : ∀ r, Qr1 d (Qah space) ⟨epoch, count, gen, r, own, lines, keys, loaded, changes, logged, nid, ng⟩ = ((!(Qd5 d (Qah space) epoch count)) || (decide (gen > 16777215) || (!(Qhe r) || (decide (r = Qec) != (gen == 0))))) := fun r => rfl
 rw [hH]
 generalize hMB : Qx4 _ = mb
 have hMB' : mb = ((!(Qaa lines)) || ((!(Qcv keys 24)) || ((!(Qcv loaded 16)) || (decide (logged < 0) || (decide (logged > 8) || (decide (nid < 1) || decide (nid > 256))))))) := hMB.symm
 clear hMB hD hH
 generalize Qhe root = po at *
 generalize decide (root = Qec) = pz at *
 generalize hst : Qd5 d (Qah space) epoch count = st at *
 obtain ⟨ra, rb, rc, rd, re⟩ := root
 simp only [Kl.cells, Qec] at hm2 hq
 generalize hnb : (if Qgy (Qet space) none own = true then if mb = true then false else if Qob lines none changes = true then !lines.any (Yh nid ng) else false else false) = nb
 simp only [Qn, Qh, Qg, Ql, Qa, Qd, nov, gd, rho, Qe, wr, simprocAttr, Qj, ↓Qi, Tryz.ntmps18, ta, new, Qb, hset, Qu, Qs, Qp, splice, zerosN, Qo, Qr, Qk, V.pure, Qq, Q4s, sb, sw, ss, sm, sl, sk, so, sc, hm1, hm2, hq, Xa, Qa1]
 repeat' ((first | refine W.guardF ?_ ?_ | refine W.guardT ?_ ?_ | refine W.guardXF ?_ ?_ | refine W.guardXT ?_ ?_ | refine W.ite ?_ ?_ | refine W.opsK1 (by kernel_rfl) ?_) <;> intro h <;> simp only [Qn, Qh, Qg, Ql, Qa, Qd, nov, gd, rho, Qe, wr, simprocAttr, Qj, ↓Qi, h, ta, new, Qb, hset, Qu, Qs, Qp, splice, zerosN, Qo, Qr, Qk, V.pure, Qq, sb, sw, ss, sm, sl, sk, so, sc, hm1, hm2, hq, Xa, Qa1, len])
 all_goals first
  | (refine W.done (Zx.ret rfl rfl ?_)
     simp only [*, Jz, if_true, if_false]
     rfl)
  | skip
 have eQ : okE (if (false || (false || (false || false))) = true then false else nb) = okE nb := rfl
 rw [eQ]
 have hst2 : Qd5 d (Qah space) epoch count = true := by rw [hst]; simpa using ‹(!st) = false›
 have hsp : space.length = 256 := by
  simp only [Qd5, Zmh, Zm9, Bool.not_eq_false', Qah, Zlm, beq_iff_eq] at hst2
  exact hst2.2.1.1.1
 have pcD : ∃ pc, pc = [bv, wv, sv, V.int .u32 epoch, V.int .u32 count, V.int .u32 gen, V.int .i64 ra, V.int .u32 rb, V.int .u32 rc, V.int .u32 rd, V.int .u32 re, mv, lv, kv, ov, cv, V.int .i64 logged, V.int .i64 nid, V.int .u32 ng] := ⟨_, rfl⟩
 obtain ⟨pc, hpc⟩ := pcD
 rw [<- hpc]
 have g2 : pc[2]? = some sv := by rw [hpc]; rfl
 have g11 : pc[11]? = some mv := by rw [hpc]; rfl
 have g12 : pc[12]? = some lv := by rw [hpc]; rfl
 have g13 : pc[13]? = some kv := by rw [hpc]; rfl
 have g14 : pc[14]? = some ov := by rw [hpc]; rfl
 have g15 : pc[15]? = some cv := by rw [hpc]; rfl
 have g16 : pc[16]? = some (.int .i64 logged) := by rw [hpc]; rfl
 have g17 : pc[17]? = some (.int .i64 nid) := by rw [hpc]; rfl
 have g18 : pc[18]? = some (.int .u32 ng) := by rw [hpc]; rfl
 have gl : pc.length = 19 := by rw [hpc]; rfl
 have gr : ∀ q, Qx q pc = false := fun q => by
  rw [hpc]
  simp only [Qx, V.refs, (hnr q).1, (hnr q).2, hspace.noRefs q, hown.noRefs q, hlv.noRefs q, hkv.noRefs q, hov.noRefs q, hcv.noRefs q, Bool.or_false, Bool.or_self]
 clear hpc hm1 hm2 hq hst2
 refine W.ul ?_
 refine W.loopS (kt := [1, 34, 35, 36]) rfl (fun i : Nat => Q3j (.ptr 0 1 0) mv (.int .i64 own.length) (.int .i64 i)) (fun _ => [[(1, .cells pc)]]) (fun i => i <= own.length /\ Qgy (Qet space) (before own i) (own.drop i) = Qgy (Qet space) none own) (fun i => own.length - i) ?_ 0 ⟨by omega, rfl⟩ rfl rfl
 rintro i ⟨hi, hR⟩
 simp only [Q3j]
 by_cases h : i < own.length
 . have c1 : decide ((i : Int) < own.length) = true := Znv (by omega)
   have at1 := hown.at (k := .i64) Tryz.underlying46 sz3 (by decide) (i := (i : Int)) (by omega) (by omega)
   have w1 : (IntKind.i64).wrap ((i : Int) + 1) = ((i + 1 : Nat) : Int) := by rw [wrap_i64] <;> omega
   have q1 : (Q3 own)[(i : Int).toNat * 1]? = some (.int .i64 own[i]) := by simp [h, Q3]
   have q1' : (Q3 own)[(i : Int).toNat]? = some (.int .i64 own[i]) := by simp [h, Q3]
   have hS : Qgy (Qet space) (before own i) (own.drop i) = if decide (own[i] < 12) || (decide (own[i] >= 256) || ((match before own i with | some q => decide (own[i] <= q) | none => false) || (Qet space own[i].toNat != 1))) then false else Qgy (Qet space) (before own (i + 1)) (own.drop (i + 1)) := by
    rw [Znm h]
    have e : before own (i + 1) = some own[i] := by simp only [before, Zkv h]
    rw [e]; rfl
   rw [hR] at hS
   generalize hp : own[i] = a at *
   generalize hnx : Qgy (Qet space) (before own (i + 1)) (own.drop (i + 1)) = nx at hS
   have walkR : ∀ (X : List (Nat × Nat)), True := fun _ => trivial
   by_cases hA : decide (a < 12) = true
   . simp only [Qn, Qh, Qg, Ql, Qa, Qd, nov, gd, rho, Qe, wr, simprocAttr, Qj, ↓Qi, c1, at1, q1, q1', hA, rd3, ta, new, Qb, hset, Qu, Qs, Qp]
     repeat' ((first | refine W.guardF ?_ ?_ | refine W.guardT ?_ ?_ | refine W.guardXF ?_ ?_ | refine W.guardXT ?_ ?_ | refine W.ite ?_ ?_ | refine W.opsK1 (by kernel_rfl) ?_) <;> intro h <;> simp only [Qn, Qh, Qg, Ql, Qa, Qd, nov, gd, rho, Qe, wr, simprocAttr, Qj, ↓Qi, h, ta, new, Qb, hset, Qu, Qs, Qp])
     all_goals first
      | (refine W.done ?_
         simp only [Qn, Qh, Qg, Ql, Qa, Qd, nov, gd, rho, Qe, wr, simprocAttr, Qj, ↓Qi]
         refine W.done (Zx.ret rfl rfl ?_)
         rw [<- hnb, hS]
         simp only [*, Jz, if_true, if_false]
         try rfl)
      | (try simp only [Qn, Qh, Qg, Ql, Qa, Qd, nov, gd, rho, Qe, wr, simprocAttr, Qj, ↓Qi, w1, (rfl : (IntKind.i64).wrap 1 = 1)]
         refine W.done ⟨i + 1, rfl, rfl, ⟨by omega, ?_⟩, by omega⟩
         rw [hS, hnx]
         simp only [*, Jz, if_true, if_false]
         try rfl)
   have hA' : decide (a < 12) = false := by simpa using hA
   by_cases hB : decide (a >= 256) = true
   . simp only [Qn, Qh, Qg, Ql, Qa, Qd, nov, gd, rho, Qe, wr, simprocAttr, Qj, ↓Qi, c1, at1, q1, q1', hA', hB, rd3, ta, new, Qb, hset, Qu, Qs, Qp]
     repeat' ((first | refine W.guardF ?_ ?_ | refine W.guardT ?_ ?_ | refine W.guardXF ?_ ?_ | refine W.guardXT ?_ ?_ | refine W.ite ?_ ?_ | refine W.opsK1 (by kernel_rfl) ?_) <;> intro h <;> simp only [Qn, Qh, Qg, Ql, Qa, Qd, nov, gd, rho, Qe, wr, simprocAttr, Qj, ↓Qi, h, ta, new, Qb, hset, Qu, Qs, Qp])
     all_goals first
      | (refine W.done ?_
         simp only [Qn, Qh, Qg, Ql, Qa, Qd, nov, gd, rho, Qe, wr, simprocAttr, Qj, ↓Qi]
         refine W.done (Zx.ret rfl rfl ?_)
         rw [<- hnb, hS]
         simp only [*, Jz, if_true, if_false]
         try rfl)
      | (try simp only [Qn, Qh, Qg, Ql, Qa, Qd, nov, gd, rho, Qe, wr, simprocAttr, Qj, ↓Qi, w1, (rfl : (IntKind.i64).wrap 1 = 1)]
         refine W.done ⟨i + 1, rfl, rfl, ⟨by omega, ?_⟩, by omega⟩
         rw [hS, hnx]
         simp only [*, Jz, if_true, if_false]
         try rfl)
   have hB' : decide (a >= 256) = false := by simpa using hB
   have h1' : 12 <= a := by have := of_decide_eq_false hA'; omega
   have h2' : a < 256 := by have := of_decide_eq_false hB'; omega
   have hlt : a.toNat < space.length := by omega
   have at3 := hspace.at (k := .i64) Tryz.underlying25 sz5 (by decide) (i := a) (by omega) (by omega)
   have q3 : (Qc space)[a.toNat * 1]? = some (.int .u8 (Qet space a.toNat)) := by
    rw [Zlx, Qa6, Zkv hlt, Zkw]; unfold Qet; rw [List.getD_eq_getElem?_getD, Zkv hlt]; rfl
   have q3' : (Qc space)[a.toNat]? = some (.int .u8 (Qet space a.toNat)) := by rw [<- q3, Zlx]
   generalize hsv : Qet space a.toNat = sa at *
   cases i with
   | zero =>
     have c0 : decide (((0 : Nat) : Int) > 0) = false := rfl
     have hb0 : before own 0 = none := rfl
     simp only [hb0] at hS
     simp only [Qn, Qh, Qg, Ql, Qa, Qd, nov, gd, rho, Qe, wr, Nat.reduceAdd, Nat.reduceSub, if_true, if_false, reduceIte, reduceCtorEq, Nat.reduceLT, Nat.reduceEqDiff, Nat.reduceMul, Nat.reduceLeDiff, Qj, Int.reduceBEq, Int.reduceBNe, Int.reduceLT, Int.reduceLE, ↓Qi, c1, at1, q1, q1', hA', hB', c0, at3, q3, q3', g2, g11, rd3, rd5, ta, new, Qb, hset, Qu, Qs, Qp]
     repeat' ((first | refine W.guardF ?_ ?_ | refine W.guardT ?_ ?_ | refine W.guardXF ?_ ?_ | refine W.guardXT ?_ ?_ | refine W.ite ?_ ?_ | refine W.opsK1 (by kernel_rfl) ?_) <;> intro h <;> simp only [Qn, Qh, Qg, Ql, Qa, Qd, nov, gd, rho, Qe, wr, simprocAttr, Qj, ↓Qi, h, c0, at3, q3, q3', g2, g11, rd3, rd5, ta, new, Qb, hset, Qu, Qs, Qp])
     all_goals first
      | (refine W.done ?_
         simp only [Qn, Qh, Qg, Ql, Qa, Qd, nov, gd, rho, Qe, wr, simprocAttr, Qj, ↓Qi]
         refine W.done (Zx.ret rfl rfl ?_)
         rw [<- hnb, hS]
         simp only [*, Jz, if_true, if_false]
         try rfl)
      | (try simp only [Qn, Qh, Qg, Ql, Qa, Qd, nov, gd, rho, Qe, wr, simprocAttr, Qj, ↓Qi, w1, (rfl : (IntKind.i64).wrap 1 = 1)]
         refine W.done ⟨0 + 1, rfl, rfl, ⟨by omega, ?_⟩, by omega⟩
         rw [hS, hnx]
         simp only [*, Jz, if_true, if_false]
         try rfl)
   | succ k =>
     have c0 : decide (((k + 1 : Nat) : Int) > 0) = true := Znv (by omega)
     have wk : (IntKind.i64).wrap (((k + 1 : Nat) : Int) - 1) = ((k : Nat) : Int) := by rw [wrap_i64] <;> omega
     have hk : k < own.length := by omega
     have at2 := hown.at (k := .i64) Tryz.underlying46 sz3 (by decide) (i := (k : Int)) (by omega) (by omega)
     have q2 : (Q3 own)[(k : Int).toNat * 1]? = some (.int .i64 own[k]) := by simp [hk, Q3]
     have q2' : (Q3 own)[(k : Int).toNat]? = some (.int .i64 own[k]) := by simp [hk, Q3]
     have hb : before own (k + 1) = some own[k] := by simp only [before, Zkv hk]
     simp only [hb] at hS
     simp only [Qn, Qh, Qg, Ql, Qa, Qd, nov, gd, rho, Qe, wr, simprocAttr, Qj, ↓Qi, c1, at1, q1, q1', hA', hB', c0, wk, at2, q2, q2', at3, q3, q3', g2, g11, rd3, rd5, ta, new, Qb, hset, Qu, Qs, Qp]
     repeat' ((first | refine W.guardF ?_ ?_ | refine W.guardT ?_ ?_ | refine W.guardXF ?_ ?_ | refine W.guardXT ?_ ?_ | refine W.ite ?_ ?_ | refine W.opsK1 (by kernel_rfl) ?_) <;> intro h <;> simp only [Qn, Qh, Qg, Ql, Qa, Qd, nov, gd, rho, Qe, wr, simprocAttr, Qj, ↓Qi, h, c0, wk, at2, q2, q2', at3, q3, q3', g2, g11, rd3, rd5, ta, new, Qb, hset, Qu, Qs, Qp])
     all_goals first
      | (refine W.done ?_
         simp only [Qn, Qh, Qg, Ql, Qa, Qd, nov, gd, rho, Qe, wr, simprocAttr, Qj, ↓Qi]
         refine W.done (Zx.ret rfl rfl ?_)
         rw [<- hnb, hS]
         simp only [*, Jz, if_true, if_false]
         try rfl)
      | (try simp only [Qn, Qh, Qg, Ql, Qa, Qd, nov, gd, rho, Qe, wr, simprocAttr, Qj, ↓Qi, w1, (rfl : (IntKind.i64).wrap 1 = 1)]
         refine W.done ⟨k + 1 + 1, rfl, rfl, ⟨by omega, ?_⟩, by omega⟩
         rw [hS, hnx]
         simp only [*, Jz, if_true, if_false]
         try rfl)
 . have c1 : decide ((i : Int) < own.length) = false := Znw (by omega)
   have hA : Qgy (Qet space) none own = true := by
    rw [<- hR, Zm2 (by omega)]
    cases hb : before own i <;> rfl
   rw [hA, if_pos rfl] at hnb
   simp only [Qn, Qh, Qg, Ql, Qa, Qd, nov, gd, rho, Qe, wr, simprocAttr, Qj, ↓Qi, c1]
   refine W.done ?_
   obtain ⟨m, rfl, hm⟩ := (Qvs lv lines ⟨lcs, hlc, hlv⟩).op (by rfl) (Qt (hlv.frz _) rfl)
   have hm1 : ∀ s H, _ := fun s H => hm 18 0 s H rfl
   obtain ⟨m, rfl, hm⟩ := (Qnb kv keys ⟨kcs, hkc, hkv⟩ f4 f6 24 (.inl rfl)).op (by rfl) (Qt (hkv.frz _) rfl)
   have hm2 : ∀ s H, _ := fun s H => hm 18 0 s H rfl
   obtain ⟨m, rfl, hm⟩ := (Qnb ov loaded ⟨ocs, hoc, hov⟩ f5 f7 16 (.inr rfl)).op (by rfl) (Qt (hov.frz _) rfl)
   have hm3 : ∀ s H, _ := fun s H => hm 18 0 s H rfl
   have hl16 : Qaa lines = true -> lines.length <= 1000000 := fun h => by
    unfold Qaa at h
    by_cases hh : (lines.length : Int) > 16
    . rw [if_pos (Znv hh)] at h; cases h
    . omega
   generalize Qaa lines = ml at *
   generalize Qcv keys 24 = mk at *
   generalize Qcv loaded 16 = mo at *
   have len2 := hcv.len Tryz.underlying63
   have hcont := Qrn lv lines lcs hlc hlv f2
   simp only [Qn, Qh, Qg, Ql, Qa, Qd, nov, gd, rho, Qe, wr, simprocAttr, Qj, ↓Qi, hm1, hm2, hm3, g12, g13, g14, g16, g17, rd3, Qo3, rd53, ta, new, Qb, hset, Qu, Qs, Qp]
   repeat' ((first | refine W.guardF ?_ ?_ | refine W.guardT ?_ ?_ | refine W.guardXF ?_ ?_ | refine W.guardXT ?_ ?_ | refine W.ite ?_ ?_ | refine W.opsK1 (by kernel_rfl) ?_) <;> intro h <;> simp only [Qn, Qh, Qg, Ql, Qa, Qd, nov, gd, rho, Qe, wr, simprocAttr, Qj, ↓Qi, h, hm1, hm2, hm3, g12, g13, g14, g15, g16, g17, rd3, Qo3, rd53, Qty, len2, ta, new, Qb, hset, Qu, Qs, Qp])
   all_goals first
    | (refine W.done (Zx.ret rfl rfl ?_)
       rw [<- hnb, hMB']
       simp only [*, Jz, if_true, if_false]
       try rfl)
    | skip
   have hmb : mb = false := by rw [hMB']; simp only [*, Bool.or_false, Zmx]
   have hml : ml = true := by first | assumption | (simp only [*]) | simp_all
   rw [hmb, if_neg (by decide)] at hnb
   clear hm1 hm2 hm3 hR hA hMB' len
   refine W.ul ?_
   refine W.loop (fun (i : Nat) t H => ∃ F : AM.Frame, Bi [1, 108, 109, 110] t 0 = Qsz (.ptr 0 1 0) cv (.int .i64 changes.length) (.int .i64 i) /\ i <= changes.length /\ H = [F] /\ (F = [(1, .cells pc)] \/ ∃ x, F = [(1, .cells pc), (6, .cells x)]) /\ Qob lines (before changes i) (changes.drop i) = Qob lines none changes) (fun i => changes.length - i) ?_ 0 ⟨_, rfl, by omega, rfl, .inl rfl, rfl⟩ rfl
   clear h hi c1
   rintro i t H ⟨F, ht, hi, rfl, hF, hR⟩
   have hd : ([F] : Heap).modify 0 (J8 fun s => [6].contains s) = [[(1, .cells pc)]] := by
    rcases hF with rfl | ⟨x, rfl⟩ <;> rfl
   have vr : cv.refs (fun f s => f == 0 && [6].contains s) = false := hcv.noRefs _
   refine ⟨_, _, J4 (kt := [1, 108, 109, 110]) (ds := [6]) rfl ?_ ?_, ?_⟩
   . rw [ht]
     simp only [Qsz, Qx, V.refs, vr]; simp
   . rw [hd]
     simp only [Zh, Zo, O.refs, gr]; simp
   rw [ht, hd]
   simp only [Qsz]
   by_cases h : i < changes.length
   . have c1 : decide ((i : Int) < changes.length) = true := Znv (by omega)
     have at1 := hcv.at (k := .i64) Tryz.underlying63 sz91 (by decide) (i := (i : Int)) (by omega) (by omega)
     obtain ⟨dv, hdv, ld⟩ := hcc.ld h
     have sdv : dv.scalar = true := by obtain ⟨_, hq⟩ := hdv; exact Qc8 hq
     have ld1 : ∀ g, ldV Tryz.prog 91 g (.iptr ccs ((i : Int).toNat * 12)) = _ := ld
     have w1 : (IntKind.i64).wrap ((i : Int) + 1) = ((i + 1 : Nat) : Int) := by rw [wrap_i64] <;> omega
     have hS : Qob lines (before changes i) (changes.drop i) = if (match Bw lines changes[i].set with | none => true | some l => l.kind != 1) || (!(Qdn changes[i]) || (match before changes i with | some q => decide (Qjg q changes[i] >= 0) | none => false)) then false else Qob lines (before changes (i + 1)) (changes.drop (i + 1)) := by
      rw [Znm h]
      have e : before changes (i + 1) = some changes[i] := by simp only [before, Zkv h]
      rw [e]; rfl
     rw [hR] at hS
     obtain ⟨m, rfl, hm⟩ := (Qq5 changes[i] dv hdv).op (by rfl) (Qt (Qb4 hdv) rfl)
     have hmc : ∀ s H, _ := fun s H => hm 18 0 s H rfl
     obtain ⟨m, rfl, hm⟩ := (Qro lv lines lcs hlc hlv (hl16 hml) changes[i].set).op (by rfl) (Qt (hlv.frz _) rfl)
     have hm1 : ∀ s H, _ := fun s H => hm 18 0 s H rfl
     have hor : ∀ (q : Jn) (qv : V), Qg7 qv q.n -> ∀ s H, callOp Qz (Q5 Tryz.prog Qz) 18 0 s 38 [.agg (Ji q qv), .agg (Ji changes[i] dv)] H = some (.ret (.int .i64 (Qjg q changes[i])), H) := fun q qv hqv s H => by
      obtain ⟨m, rfl, hm⟩ := (Q4g q changes[i] qv dv hqv hdv).op (by rfl) (Qt (Qb4 hqv) (Qt (Qb4 hdv) rfl))
      exact hm 18 0 s H rfl
     generalize hnx : Qob lines (before changes (i + 1)) (changes.drop (i + 1)) = nx at hS
     generalize hoi : Qjg = oi at *
     generalize Qdn changes[i] = mc at *
     generalize hp : changes[i] = c at *
     simp only [Ji] at ld1 hmc
     cases hO : Qc1 lines c.set with
     | none =>
       have hLf : Bw lines c.set = none := by simp only [Bw, hO]
       simp only [hO] at hm1
       simp only [hLf, Bool.true_or, if_true] at hS
       simp only [Qn, Qh, Qg, Ql, Qa, Qd, nov, gd, rho, Qe, wr, simprocAttr, Qj, ↓Qi, c1, at1, ld1, hm1, hmc, Xa, Qbg, Qbh, Qa1, g12, g15, rd3, rd5, Qo3, Qty, sdv, ta, new, Qb, hset, Qu, Qs, Qp, splice, zerosN, Qo, Qr, Qk, V.pure, Qq]
       repeat' ((first | refine W.guardF ?_ ?_ | refine W.guardT ?_ ?_ | refine W.guardXF ?_ ?_ | refine W.guardXT ?_ ?_ | refine W.ite ?_ ?_ | refine W.opsK1 (by kernel_rfl) ?_) <;> intro h <;> simp only [Qn, Qh, Qg, Ql, Qa, Qd, nov, gd, rho, Qe, wr, simprocAttr, Qj, ↓Qi, h, c1, at1, ld1, hm1, hmc, Xa, Qbg, Qbh, Qa1, g12, g15, rd3, rd5, Qo3, Qty, sdv, ta, new, Qb, hset, Qu, Qs, Qp, splice, zerosN, Qo, Qr, Qk, V.pure, Qq])
       all_goals first
        | (refine W.done ?_
           simp only [Qn, Qh, Qg, Ql, Qa, Qd, nov, gd, rho, Qe, wr, simprocAttr, Qj, ↓Qi]
           refine W.done (Zx.ret rfl rfl ?_)
           rw [<- hnb, hS]
           simp only [*, Jz, if_true, if_false]
           try rfl)
        | (try simp only [Qn, Qh, Qg, Ql, Qa, Qd, nov, gd, rho, Qe, wr, simprocAttr, Qj, ↓Qi, w1, (rfl : (IntKind.i64).wrap 1 = 1)]
           refine W.done ⟨_, ⟨_, rfl, by omega, rfl, .inr ⟨_, rfl⟩, ?_⟩, by omega⟩
           rw [hS, hnx]
           simp only [*, Jz, if_true, if_false]
           try rfl)
     | some j =>
       have hj := Qjq hO
       obtain ⟨j1, j2, j3, j4⟩ := hlc.cells hj
       have hLf : Bw lines c.set = some lines[j] := by simp only [Bw, hO, Zkv hj]
       simp only [hO] at hm1
       simp only [hLf] at hS
       generalize lines[j].kind = lk at *
       cases i with
       | zero =>
         have c0 : decide (((0 : Nat) : Int) > 0) = false := rfl
         have hb0 : before changes 0 = none := rfl
         simp only [hb0] at hS
         simp only [Qn, Qh, Qg, Ql, Qa, Qd, nov, gd, rho, Qe, wr, Nat.reduceAdd, Nat.reduceSub, if_true, if_false, reduceIte, reduceCtorEq, Nat.reduceLT, Nat.reduceEqDiff, Nat.reduceMul, Nat.reduceLeDiff, Qj, Int.reduceBEq, Int.reduceBNe, Int.reduceLT, Int.reduceLE, ↓Qi, c0, j2, c1, at1, ld1, hm1, hmc, Xa, Qbg, Qbh, Qa1, g12, g15, rd3, rd5, Qo3, Qty, sdv, ta, new, Qb, hset, Qu, Qs, Qp, splice, zerosN, Qo, Qr, Qk, V.pure, Qq]
         repeat' ((first | refine W.guardF ?_ ?_ | refine W.guardT ?_ ?_ | refine W.guardXF ?_ ?_ | refine W.guardXT ?_ ?_ | refine W.ite ?_ ?_ | refine W.opsK1 (by kernel_rfl) ?_) <;> intro h <;> simp only [Qn, Qh, Qg, Ql, Qa, Qd, nov, gd, rho, Qe, wr, simprocAttr, Qj, ↓Qi, h, c0, j2, c1, at1, ld1, hm1, hmc, Xa, Qbg, Qbh, Qa1, g12, g15, rd3, rd5, Qo3, Qty, sdv, ta, new, Qb, hset, Qu, Qs, Qp, splice, zerosN, Qo, Qr, Qk, V.pure, Qq])
         all_goals first
          | (refine W.done ?_
             simp only [Qn, Qh, Qg, Ql, Qa, Qd, nov, gd, rho, Qe, wr, simprocAttr, Qj, ↓Qi]
             refine W.done (Zx.ret rfl rfl ?_)
             rw [<- hnb, hS]
             simp only [*, Jz, if_true, if_false]
             try rfl)
          | (try simp only [Qn, Qh, Qg, Ql, Qa, Qd, nov, gd, rho, Qe, wr, simprocAttr, Qj, ↓Qi, w1, (rfl : (IntKind.i64).wrap 1 = 1)]
             refine W.done ⟨0 + 1, ⟨_, rfl, by omega, rfl, .inr ⟨_, rfl⟩, ?_⟩, by omega⟩
             rw [hS, hnx]
             simp only [*, Jz, if_true, if_false]
             try rfl)
       | succ k =>
         have c0 : decide (((k + 1 : Nat) : Int) > 0) = true := Znv (by omega)
         have wk : (IntKind.i64).wrap (((k + 1 : Nat) : Int) - 1) = ((k : Nat) : Int) := by rw [wrap_i64] <;> omega
         have hk : k < changes.length := by omega
         have at2 := hcv.at (k := .i64) Tryz.underlying63 sz91 (by decide) (i := (k : Int)) (by omega) (by omega)
         obtain ⟨qv, hqv, ldq⟩ := hcc.ld hk
         have ld2 : ∀ g, ldV Tryz.prog 91 g (.iptr ccs ((k : Int).toNat * 12)) = _ := ldq
         have hmo := hor _ qv hqv
         have hb : before changes (k + 1) = some changes[k] := by simp only [before, Zkv hk]
         simp only [hb] at hS
         simp only [Ji] at ld2 hmo
         simp only [Qn, Qh, Qg, Ql, Qa, Qd, nov, gd, rho, Qe, wr, simprocAttr, Qj, ↓Qi, c0, j2, c1, at1, ld1, hm1, hmc, Xa, Qbg, Qbh, Qa1, g12, g15, rd3, rd5, Qo3, Qty, sdv, ta, new, Qb, hset, Qu, Qs, Qp, splice, zerosN, Qo, Qr, Qk, V.pure, Qq]
         repeat' ((first | refine W.guardF ?_ ?_ | refine W.guardT ?_ ?_ | refine W.guardXF ?_ ?_ | refine W.guardXT ?_ ?_ | refine W.ite ?_ ?_ | refine W.opsK1 (by kernel_rfl) ?_) <;> intro h <;> simp only [Qn, Qh, Qg, Ql, Qa, Qd, nov, gd, rho, Qe, wr, simprocAttr, Qj, ↓Qi, h, c0, wk, at2, ld2, hmo, j2, c1, at1, ld1, hm1, hmc, Xa, Qbg, Qbh, Qa1, g12, g15, rd3, rd5, Qo3, Qty, sdv, ta, new, Qb, hset, Qu, Qs, Qp, splice, zerosN, Qo, Qr, Qk, V.pure, Qq])
         all_goals first
          | (refine W.done ?_
             simp only [Qn, Qh, Qg, Ql, Qa, Qd, nov, gd, rho, Qe, wr, simprocAttr, Qj, ↓Qi]
             refine W.done (Zx.ret rfl rfl ?_)
             rw [<- hnb, hS]
             simp only [*, Jz, if_true, if_false]
             try rfl)
          | (try simp only [Qn, Qh, Qg, Ql, Qa, Qd, nov, gd, rho, Qe, wr, simprocAttr, Qj, ↓Qi, w1, (rfl : (IntKind.i64).wrap 1 = 1)]
             refine W.done ⟨_, ⟨_, rfl, by omega, rfl, .inr ⟨_, rfl⟩, ?_⟩, by omega⟩
             rw [hS, hnx]
             simp only [*, Jz, if_true, if_false]
             try rfl)
   . have c1 : decide ((i : Int) < changes.length) = false := Znw (by omega)
     have hC : Qob lines none changes = true := by
      rw [<- hR, Zm2 (by omega)]
      cases hb : before changes i <;> rfl
     rw [hC, if_pos rfl] at hnb
     simp only [Qn, Qh, Qg, Ql, Qa, Qd, nov, gd, rho, Qe, wr, simprocAttr, Qj, ↓Qi, c1]
     refine W.done ?_
     obtain ⟨r, H', e1, e2, rfl⟩ := hcont [(1, .cells pc)] pc (by simp only [Zo, O.refs, gr]; rfl) rfl gl nid ng g17 g18
     subst e2
     have hcall : ∀ d, callOp Qz (Q5 Tryz.prog Qz) 18 0 d 39 [lv, .func (.func 40) [] [.ptr 0 1 0]] [[(1, .cells pc)]] = _ := fun d => Kx rfl rfl rfl e1
     simp only [Qn, Qh, Qg, Ql, Qa, Qd, nov, gd, rho, Qe, wr, simprocAttr, Qj, ↓Qi, g12, Qo3, ta, new, Qb, hset, Qu, Qs, Qp, hcall]
     refine W.ite ?_ ?_ <;> intro h2 <;> simp only [Qn, Qh, Qg, Ql, Qa, Qd, nov, gd, rho, Qe, wr, simprocAttr, Qj, ↓Qi, ta, new, Qb, hset, Qu, Qs, Qp]
     . refine W.done (Zx.ret rfl rfl ?_)
       rw [<- hnb, h2]; rfl
     . refine W.done (Zx.ret rfl rfl ?_)
       rw [<- hnb, h2]; rfl
end
end Go.Proofs.YteagpfbdmiihaaaGreatDoor
