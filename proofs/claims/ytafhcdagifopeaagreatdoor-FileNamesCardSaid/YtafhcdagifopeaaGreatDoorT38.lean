/- This file holds in one the texts E13, DV2, DZ, DX; each says at its head what it proves. -/
import Derived.Test.YtafhcdagifopeaaGreatDoorT22
import Derived.Test.YtafhcdagifopeaaGreatDoorT26
import Derived.Test.YtafhcdagifopeaaGreatDoorT28
import Derived.Test.YtafhcdagifopeaaGreatDoorT29
import Derived.Test.YtafhcdagifopeaaGreatDoorT31
import Derived.Test.YtafhcdagifopeaaGreatDoorT34
import Derived.Test.YtafhcdagifopeaaGreatDoorT37
import Derived.Lib.AppendZeros
set_option linter.unusedSimpArgs false
set_option linter.unusedVariables false
namespace Go.Proofs.YtafhcdagifopeaaGreatDoor
section
set_option maxRecDepth 100000
open Go.AM
attribute [local irreducible] U W
theorem Qiq (c : Ji) (av : V) (ha : Qgm av c.n) (s o i : Int) : Fz Tryz.prog Qz 101 [.agg (Jd c av), .agg [.int .i64 s, .int .i64 o, .int .i64 i]] fun x => x = .int .i64 (Qln c s o i) := by
 refine Js Tryz.func101 rfl ?_
 obtain ⟨ca, ha⟩ := ha
 have sa := Qcq ha
 obtain ⟨m, rfl, hm⟩ := (Ky c.set s).op (by rfl) rfl
 have hm1 : ∀ s H, _ := fun s H => hm 101 0 s H rfl
 obtain ⟨m, rfl, hm⟩ := (Ky c.obj o).op (by rfl) rfl
 have hm2 : ∀ s H, _ := fun s H => hm 101 0 s H rfl
 obtain ⟨m, rfl, hm⟩ := (Ky c.index i).op (by rfl) rfl
 have hm3 : ∀ s H, _ := fun s H => hm 101 0 s H rfl
 obtain ⟨m, rfl, hm⟩ := (or_fz (.iS [.int .i64 (B8 c.set s), .int .i64 (B8 c.obj o), .int .i64 (B8 c.index i)] 3 true) [B8 c.set s, B8 c.obj o, B8 c.index i] (Ba.mk _ _) (by simp)).op (by rfl) rfl
 have hm4 : ∀ s H, _ := fun s H => hm 101 0 s H rfl
 have mt : Qz.mt 101 20 = false := by rfl
 simp only [Qn, Qg, Qf, Ql, Qa, Qc, nov, gd, rho, Qd, wr, Nat.reduceAdd, Nat.reduceSub, if_true, if_false, reduceIte, reduceCtorEq, Qi, Int.reduceBEq, Int.reduceBNe, Int.reduceLT, Int.reduceLE, ↓Qh, Tryz.ntmps101, ta, new, Qb, hset, Qu, Qs, Qp, Nat.reduceLT, Nat.reduceEqDiff, splice, zerosN, Qo, Qr, Qk, V.pure, Nat.reduceMul, Nat.reduceLeDiff, Qq, Jd, sa, hm1, hm2, hm3, hm4, Tryz.underlying32, sz3, zc3, List.length_cons, List.length_nil, List.length_append, mt]
 repeat' ((first | refine W.guardF ?_ ?_ | refine W.guardT ?_ ?_ | refine W.guardXF ?_ ?_ | refine W.guardXT ?_ ?_ | refine W.ite ?_ ?_ | refine W.opsK1 (by kernel_rfl) ?_) <;> intro h <;> simp only [Qn, Qg, Qf, Ql, Qa, Qc, nov, gd, rho, Qd, wr, Nat.reduceAdd, Nat.reduceSub, if_true, if_false, reduceIte, reduceCtorEq, Qi, Int.reduceBEq, Int.reduceBNe, Int.reduceLT, Int.reduceLE, ↓Qh, h, mt])
 all_goals refine W.done (Zv.ret rfl rfl ?_)
 all_goals first | rfl | (simp only [Qln, *, Jt, if_true, if_false]; try rfl)
set_option maxHeartbeats 4000000 in
theorem Q79 (v : V) (ls : List Ji) (hv : Qda v ls) (hl : ls.length <= 1000000) (s o x : Int) :
 Fz Tryz.prog Qz 100 [v, .agg [.int .i64 s, .int .i64 o, .int .i64 x], .func (.func 101) [] []] fun y => y = .tuple [.int .i64 (bs (cCh ls s o x) ls.length), .bool (Qjo (cCh ls s o x) ls.length)] := by
 refine Js Tryz.func100 rfl ?_
 obtain ⟨cs, hc, hv⟩ := hv
 have len := hv.len Tryz.underlying34
 have sc := Qcq hv
 simp only [Qn, Qg, Qf, Ql, Qa, Qc, nov, gd, rho, Qd, wr, Nat.reduceAdd, Nat.reduceSub, if_true, if_false, reduceIte, reduceCtorEq, Qi, Int.reduceBEq, Int.reduceBNe, Int.reduceLT, Int.reduceLE, ↓Qh, Tryz.ntmps100, ta, new, Qb, hset, Qu, Qs, Qp, Nat.reduceLT, Nat.reduceEqDiff, splice, zerosN, Qo, Qr, Qk, V.pure, Nat.reduceMul, Nat.reduceLeDiff, Qq, len]
 refine W.ul ?_
 refine W.loopS (kt := [0, 2, 4, 8, 9, 10]) rfl (fun a : Nat × Nat => Qyw v (.func (.func 101) [] []) (.ptr 0 4 0) (.int .i64 ls.length) (.int .i64 a.1) (.int .i64 a.2)) (fun _ => [[(4, .cells [.int .i64 s, .int .i64 o, .int .i64 x])]])
  (fun a => a.1 <= a.2 /\ a.2 <= ls.length /\ Qgh (cCh ls s o x) (a.2 - a.1) a.1 a.2 = bs (cCh ls s o x) ls.length) (fun a => a.2 - a.1) ?_ (0, ls.length) ⟨by simp, by simp, rfl⟩ rfl rfl
 rintro ⟨i, j⟩ ⟨hij, hj, hR⟩
 simp only at hij hj hR
 simp only [Qyw]
 by_cases h : i < j
 . have c1 : decide ((i : Int) < j) = true := decide_eq_true (by omega)
   have wa : (IntKind.i64).wrap ((i : Int) + j) = ((i + j : Nat) : Int) := by rw [wrap_i64] <;> omega
   have hm : (i + j) / 2 < ls.length := by omega
   have at1 := hv.at (k := .i64) Tryz.underlying34 Qpj (by decide) (i := (((i + j) / 2 : Nat) : Int)) (by omega) (by omega)
   obtain ⟨dv, hd, ld⟩ := hc.ld hm
   have ld' : ∀ g, ldV Tryz.prog 107 g (.iptr cs ((((i + j) / 2 : Nat) : Int).toNat * 12)) = _ := ld
   have cv1 := fun g => Qyj g (i + j) (by omega)
   have cv2 := fun g => Qyh g ((i + j) / 2) (by omega)
   have sh : ∀ p q, Zz Tryz.prog .shr 203 p q (.int .u64 ((i + j : Nat) : Int)) (.int .u64 1) = _ := fun p q => Q4h (i + j)
   obtain ⟨m, rfl, hm2⟩ := (Qiq ls[(i + j) / 2] dv hd s o x).op (by rfl) (Qt (Qbx hd) rfl)
   have hm3 : ∀ s H, _ := fun s H => hm2 100 0 s H rfl
   have eL : cCh ls s o x ((i + j) / 2) = Qln ls[(i + j) / 2] s o x := by simp only [cCh, List.getElem?_eq_getElem hm]
   have w1 : (IntKind.i64).wrap ((((i + j) / 2 : Nat) : Int) + 1) = (((i + j) / 2 + 1 : Nat) : Int) := by rw [wrap_i64] <;> omega
   rw [<- eL] at hm3
   simp only [Qn, Qg, Qf, Ql, Qa, Qc, nov, gd, rho, Qd, wr, Nat.reduceAdd, Nat.reduceSub, if_true, if_false, reduceIte, reduceCtorEq, Qi, Int.reduceBEq, Int.reduceBNe, Int.reduceLT, Int.reduceLE, ↓Qh, c1, wa, at1, ld', cv1, cv2, sh, hm3, ta, new, Qb, hset, Qu, Qs, Qp, Nat.reduceLT, Nat.reduceEqDiff, splice, zerosN, Qo, Qr, Qk, V.pure, Nat.reduceMul, Nat.reduceLeDiff, Qq]
   refine W.opsK (by kernel_rfl) ?_
   simp only [Qn, Qg, Qf, Ql, Qa, Qc, nov, gd, rho, Qd, wr, Nat.reduceAdd, Nat.reduceSub, if_true, if_false, reduceIte, reduceCtorEq, Qi, Int.reduceBEq, Int.reduceBNe, Int.reduceLT, Int.reduceLE, ↓Qh, ta, new, Qb, hset, Qu, Qs, Qp, Nat.reduceLT, Nat.reduceEqDiff, splice, zerosN, Qo, Qr, Qk, V.pure, Nat.reduceMul, Nat.reduceLeDiff, Qq]
   refine W.ite ?_ ?_ <;> intro h2 <;> simp only [Qn, Qg, Qf, Ql, Qa, Qc, nov, gd, rho, Qd, wr, Nat.reduceAdd, Nat.reduceSub, if_true, if_false, reduceIte, reduceCtorEq, Qi, Int.reduceBEq, Int.reduceBNe, Int.reduceLT, Int.reduceLE, ↓Qh, ta, new, Qb, hset, Qu, Qs, Qp, Nat.reduceLT, Nat.reduceEqDiff, splice, zerosN, Qo, Qr, Qk, V.pure, Nat.reduceMul, Nat.reduceLeDiff, Qq, w1]
   . exact W.done ⟨((i + j) / 2 + 1, j), rfl, rfl, ⟨by simp only; omega, hj, by rw [<- hR, Q4l h h2]⟩, by simp only; omega⟩
   . exact W.done ⟨(i, (i + j) / 2), rfl, rfl, ⟨by simp only; omega, by simp only; omega, by rw [<- hR, Q3g h h2]⟩, by simp only; omega⟩
 . have c1 : decide ((i : Int) < j) = false := decide_eq_false (by omega)
   have e : i = j := by omega
   subst e
   have hi : i = bs (cCh ls s o x) ls.length := by
    rw [<- hR, Nat.sub_self]; rfl
   have key : Qjo (cCh ls s o x) ls.length = (decide (i < ls.length) && decide (cCh ls s o x i = 0)) := by rw [Qjo, <- hi]
   rw [key, <- hi]
   simp only [Qn, Qg, Qf, Ql, Qa, Qc, nov, gd, rho, Qd, wr, Nat.reduceAdd, Nat.reduceSub, if_true, if_false, reduceIte, reduceCtorEq, Qi, Int.reduceBEq, Int.reduceBNe, Int.reduceLT, Int.reduceLE, ↓Qh, c1]
   refine W.done ?_
   by_cases h2 : i < ls.length
   . have c2 : decide ((i : Int) < ls.length) = true := decide_eq_true (by omega)
     have at1 := hv.at (k := .i64) Tryz.underlying34 Qpj (by decide) (i := (i : Int)) (by omega) (by omega)
     obtain ⟨dv, hd, ld⟩ := hc.ld h2
     have ld' : ∀ g, ldV Tryz.prog 107 g (.iptr cs ((i : Int).toNat * 12)) = _ := ld
     obtain ⟨m, rfl, hm2⟩ := (Qiq ls[i] dv hd s o x).op (by rfl) (Qt (Qbx hd) rfl)
     have hm3 : ∀ s H, _ := fun s H => hm2 100 0 s H rfl
     have eL : cCh ls s o x i = Qln ls[i] s o x := by simp only [cCh, List.getElem?_eq_getElem h2]
     rw [<- eL] at hm3
     have e0 : (cCh ls s o x i == 0) = decide (cCh ls s o x i = 0) := rfl
     simp only [Qn, Qg, Qf, Ql, Qa, Qc, nov, gd, rho, Qd, wr, Nat.reduceAdd, Nat.reduceSub, if_true, if_false, reduceIte, reduceCtorEq, Qi, Int.reduceBEq, Int.reduceBNe, Int.reduceLT, Int.reduceLE, ↓Qh, c2, at1, ld', hm3, e0, ta, new, Qb, hset, Qu, Qs, Qp, Nat.reduceLT, Nat.reduceEqDiff, splice, zerosN, Qo, Qr, Qk, V.pure, Nat.reduceMul, Nat.reduceLeDiff, Qq]
     refine W.opsK (by kernel_rfl) ?_
     simp only [Qn, Qg, Qf, Ql, Qa, Qc, nov, gd, rho, Qd, wr, Nat.reduceAdd, Nat.reduceSub, if_true, if_false, reduceIte, reduceCtorEq, Qi, Int.reduceBEq, Int.reduceBNe, Int.reduceLT, Int.reduceLE, ↓Qh, ta, new, Qb, hset, Qu, Qs, Qp, Nat.reduceLT, Nat.reduceEqDiff, splice, zerosN, Qo, Qr, Qk, V.pure, Nat.reduceMul, Nat.reduceLeDiff, Qq]
     rw [decide_eq_true h2, Bool.true_and]
     exact W.done (Zv.ret rfl rfl rfl)
   . have c2 : decide ((i : Int) < ls.length) = false := decide_eq_false (by omega)
     simp only [Qn, Qg, Qf, Ql, Qa, Qc, nov, gd, rho, Qd, wr, Nat.reduceAdd, Nat.reduceSub, if_true, if_false, reduceIte, reduceCtorEq, Qi, Int.reduceBEq, Int.reduceBNe, Int.reduceLT, Int.reduceLE, ↓Qh, c2, ta, new, Qb, hset, Qu, Qs, Qp, Nat.reduceLT, Nat.reduceEqDiff, splice, zerosN, Qo, Qr, Qk, V.pure, Nat.reduceMul, Nat.reduceLeDiff, Qq]
     refine W.opsK (by kernel_rfl) ?_
     simp only [Qn, Qg, Qf, Ql, Qa, Qc, nov, gd, rho, Qd, wr, Nat.reduceAdd, Nat.reduceSub, if_true, if_false, reduceIte, reduceCtorEq, Qi, Int.reduceBEq, Int.reduceBNe, Int.reduceLT, Int.reduceLE, ↓Qh, ta, new, Qb, hset, Qu, Qs, Qp, Nat.reduceLT, Nat.reduceEqDiff, splice, zerosN, Qo, Qr, Qk, V.pure, Nat.reduceMul, Nat.reduceLeDiff, Qq]
     rw [decide_eq_false h2, Bool.false_and]
     exact W.done (Zv.ret rfl rfl rfl)
end
section
set_option maxRecDepth 100000
open Go.AM Go.AM.BM
theorem frz_b {b : Bool} {g : Get} {m : Nat} {v : V} (h : frz g m v = some (.bool b)) : v = .bool b := by
 cases m with
 | zero => cases h
 | succ m =>
   cases v <;> simp only [frz] at h <;> first
    | exact Option.some.inj h
    | (simp only [Option.map_eq_some_iff, reduceCtorEq, and_false, exists_false] at h)
    | (split at h <;> first
        | (split at h <;> simp only [Option.map_eq_some_iff, reduceCtorEq, and_false, exists_false] at h)
        | (simp only [Option.map_eq_some_iff, Option.some.injEq, reduceCtorEq, and_false, exists_false] at h)
        | cases h)
    | cases h
theorem frz_t {l : List V} {g : Get} {m : Nat} {v : V} (h : frz g (m + 1) v = some (.tuple l)) : ∃ cs, v = .tuple cs /\ Zc (frz g m) cs = some l := by
 cases v <;> simp only [frz] at h <;> first
  | (simp only [Option.map_eq_some_iff, reduceCtorEq, and_false, exists_false] at h; done)
  | (obtain ⟨a, h1, h2⟩ := Option.map_eq_some_iff.1 h; cases h2; exact ⟨_, rfl, h1⟩)
  | (split at h <;> first
      | (split at h <;> simp only [Option.map_eq_some_iff, reduceCtorEq, and_false, exists_false] at h)
      | (simp only [Option.map_eq_some_iff, Option.some.injEq, reduceCtorEq, and_false, exists_false] at h)
      | cases h)
  | cases h
theorem frz_ib {k : IntKind} {n : Int} {b : Bool} {g : Get} {m : Nat} {v : V} (h : frz g (m + 1) v = some (.tuple [.int k n, .bool b])) : v = .tuple [.int k n, .bool b] := by
 obtain ⟨cs, rfl, h1⟩ := frz_t h
 match cs, h1 with
 | [], h1 => cases h1
 | [x], h1 =>
   simp only [Zc] at h1
   split at h1
   . rename_i e1 e2
     cases e2; cases h1
   . cases h1
 | x :: y :: r, h1 =>
   simp only [Zc] at h1
   split at h1
   case h_2 => cases h1
   rename_i a l e1 e2
   cases h1
   split at e2
   case h_2 => cases e2
   rename_i a l e3 e4
   cases e2
   cases r with
   | nil => rw [frz_i e1, frz_b e3]
   | cons z r =>
     simp only [Zc] at e4
     split at e4 <;> cases e4
theorem Q3s (ys : List V) (v : V) (h : Qy6 101 ys = some v) : FzN Tryz.prog Qz 100 ys v := by
 unfold Qy6 at h
 split at h
 case h_2 => cases h
 rename_i w s o x g
 split at h
 case isFalse => cases h
 rename_i hg
 have hg2 := Nat.eq_of_beq_eq_true hg
 subst hg2
 simp only [Option.bind_eq_some_iff] at h
 obtain ⟨ls, h1, s', h2, o', h3, x', h4, h5⟩ := h
 cases h5
 rw [Y6 h2, Y6 h3, Y6 h4]
 have i10 : Qda w ls /\ ls.length <= 900 := by
  obtain ⟨cs, h1 | ⟨fl, rfl, h2⟩, h3⟩ := Qiy h1
  . obtain ⟨rfl, rfl, rfl⟩ := h1
    exact ⟨⟨[], rfl, Zo.nil⟩, h3⟩
  . have hc := Qfe _ (Nat.le_refl _) h2
    exact ⟨⟨_, hc, Zo.mk hc.len⟩, h3⟩
 obtain ⟨v0, H', y, f1, f2, rfl⟩ := Q79 w ls i10.1 (by omega) s' o' x'
 have f3 : v0 = .tuple [.int .i64 (bs (cCh ls s' o' x') ls.length), .bool (Qjo (cCh ls s' o' x') ls.length)] := by
  exact frz_ib f2
 subst f3
 exact ⟨_, _, f1, rfl⟩
end
end Go.Proofs.YtafhcdagifopeaaGreatDoor
section
set_option maxRecDepth 100000
namespace Go.AM
open Go.RowKit Go.Lib
section
variable {P : Program}
theorem Qie (w : World) {o : Oper} {a : Act} {K : Act -> World -> Prop} {Q : Exit -> Act -> World -> Prop} (d s : Operand) (t t' : TypeId)
 (ho : o.op = .call { callee := .builtin .copy, args := #[d, s], argTypes := #[t, t'] }) (v u : Value) (hd : a.eval d = v) (hs : a.eval s = u) {v' : Value} {w' : World}
 (hr : (Builtin.copy_ #[t, t'] o.type #[v, u]).run P w = .ok v' w') (h : K (a.put o.dst v') w') : o.wp P a w K Q := by
 unfold Oper.wp execOp
 simp only [ho, resolve, invoke, builtin, Sem.run_bind, Sem.run_pure, Result.andThen_ok, List.map_toArray, List.map_cons, List.map_nil, hd, hs, hr]
 exact h
theorem Qc7 (w : World) {ops : Array Oper} {rest : List Oper} {o : Oper} {a : Act} {Q : Exit -> Act -> World -> Prop} (hgd : o.guard = none) (d s : Operand) (t t' : TypeId)
 (ho : o.op = .call { callee := .builtin .copy, args := #[d, s], argTypes := #[t, t'] }) (v u : Value) (hd : a.eval d = v) (hs : a.eval s = u) {v' : Value} {w' : World}
 (hr : (Builtin.copy_ #[t, t'] o.type #[v, u]).run P w = .ok v' w') (h : wpList P ops Q rest (a.put o.dst v') w') : wpList P ops Q (o :: rest) a w :=
 wpList_plain hgd fun _ hK => Qie w d s t t' ho v u hd hs hr (hK _ _ h)
theorem Qeo {ops : Array Oper} {o : Oper} {a : Act} {w : World} {K : Act -> World -> Prop} {Q : Exit -> Act -> World -> Prop} {E : Prop}
 (hg : o.guard = none) (d x : Operand) (dT sT : TypeId) (hop : o.op = Op.call { callee := Callee.builtin Builtin.copy, args := #[d, x], argTypes := #[dT, sT] })
 (v u : Value) (hd : a.eval d = v) (hx : a.eval x = u) {v' : Value} {w' : World} (hr : (Builtin.copy_ #[dT, sT] o.type #[v, u]).run P w = .ok v' w') (hK : K (a.put o.dst v') w') :
 if Region.wanted o (yielded ops a.tmps) = true then Oper.wp P o a w K Q else E := by
 have hw : Region.wanted o (yielded ops a.tmps) = true := by simp [Region.wanted, hg]
 rw [if_pos hw]
 exact Qie w d x dT sT hop v u hd hx hr hK
end
end Go.AM
namespace Go.Proofs.YtafhcdagifopeaaGreatDoor
open Go.AM Go.AM.BM Go.RowKit Go.Lib
theorem uS : Tryz.prog.underlying 34 = some (.slice 107) := by kernel_rfl
theorem uI : Tryz.prog.underlying 3 = some (.int .i64) := by kernel_rfl
theorem uB : Tryz.prog.underlying 4 = some .bool := by kernel_rfl
theorem zE : sz Tryz.prog 107 = some 12 := by kernel_rfl
theorem byE : byt Tryz.prog 107 = some 96 := by kernel_rfl
theorem zcE : (zer Tryz.prog 107).map (fun z => z.cells.size) = some 12 := by kernel_rfl
set_option maxHeartbeats 4000000 in
theorem Q4v 
 (w : World) (b n c i m vb voff vc : Nat) (hm : 0 < m) (hi : i < n) (hroom : n + m <= c) (hn63 : n + m <= 35184372088832) (hov : ∀ lb cb, (callFunc 197 #[.slice (some ⟨vb, voff, none⟩) m vc, .slice (some ⟨b, (i + m) * 12, none⟩) lb cb]).run Tryz.prog w = .ok (.value (.bool false)) w)
 (w1 w2 : World) (hcp1 : ∀ ty dc sc, (Builtin.copy_ #[34, 34] ty #[.slice (some ⟨b, (i + m) * 12, none⟩) (n + m - (i + m)) dc, .slice (some ⟨b, i * 12, none⟩) (n + m - i) sc]).run Tryz.prog w.drew = .ok (goInt ((n - i : Nat) : Int)) w1)
 (hcp2 : ∀ ty dc, (Builtin.copy_ #[34, 34] ty #[.slice (some ⟨b, i * 12, none⟩) (n + m - i) dc, .slice (some ⟨vb, voff, none⟩) m vc]).run Tryz.prog w1 = .ok (goInt m) w2) :
 Calls Tryz.prog 152 #[.slice (some ⟨b, 0, none⟩) n c, .int .i64 i, .slice (some ⟨vb, voff, none⟩) m vc] w fun e w' => e = .returned (.slice (some ⟨b, 0, none⟩) (n + m) c) /\ w' = w2 := by
 have mixed := Tryz.checked.mixed
 have r34 := Qm (P := Tryz.prog) uS; have r3 := Qm (P := Tryz.prog) uI; have r4 := Qm (P := Tryz.prog) uB
 have z129 : ∀ w, (Go.sizeOf 107).run Tryz.prog w = .ok 12 w := Jh zE
 have hz1 : ¬ ((m : Int) = 0) := by omega
 have hz2 : ¬ ((i : Int) = (n : Int)) := by omega
 have hz3 : ¬ ((c : Int) < (n : Int) + (m : Int)) := by omega
 have hw0 : IntKind.i64.wrap ((n : Int) + (m : Int)) = (n : Int) + (m : Int) := by rw [IntKind.wrap_i64]; omega
 have hw1 : IntKind.i64.wrap ((i : Int) + (m : Int)) = (i : Int) + (m : Int) := by rw [IntKind.wrap_i64]; omega
 have hb0 : (0 : Int) <= (n : Int) + (m : Int) := by omega
 have hb1 : (0 : Int) <= (i : Int) + (m : Int) := by omega
 have hin : i <= n := by omega
 have htn0 : ((n : Int) + (m : Int)).toNat = n + m := by omega
 have htn : ((i : Int) + (m : Int)).toNat = i + m := by omega
 have hb2 : ¬ (c = i + m) := by omega
 have hb3 : (i : Int) <= (n : Int) + (m : Int) := by omega
 have hb4 : ¬ (c = i) := by omega
 have hb5 : (n : Int) + (m : Int) <= (c : Int) := by omega
 go_enter Tryz.func152, Tryz.ntmps152
 go_wp2_with (simp only [hov])
 go_region_law_o (refine Qeo rfl _ _ 34 34 rfl _ _ (by simp [Act.eval, Act.put]) (by simp [Act.eval, Act.put]) (hcp1 _ _ _) ?_)
 go_wp2_with (at_builtin; refine Qc7 _ rfl _ _ 34 34 rfl _ _ rfl rfl (hcp2 _ _) ?_)
 go_ret
 exact ⟨rfl, rfl⟩
set_option maxHeartbeats 4000000 in
theorem Qyz 
 (w : World) (base : Option Addr) (n c m : Nat) (v : Value) (hm : 0 < m) (hv : ∀ w, (Builtin.lenOf v).run Tryz.prog w = .ok m w) (hsl : ∃ a k, v = .slice a m k) (hn63 : n + m <= 35184372088832) (hnc : n <= c) (hbase : base = none -> c = 0) (v1 : Value)
 (w1 : World) (hap : ∀ ty, (Builtin.append_ #[34, 34] ty #[.slice base n c, v]).run Tryz.prog w = .ok v1 w1) :
 Calls Tryz.prog 152 #[.slice base n c, .int .i64 n, v] w fun e w' => e = .returned v1 /\ w' = w1 := by
 have mixed := Tryz.checked.mixed
 have r34 := Qm (P := Tryz.prog) uS; have r3 := Qm (P := Tryz.prog) uI; have r4 := Qm (P := Tryz.prog) uB
 have z129 : ∀ w, (Go.sizeOf 107).run Tryz.prog w = .ok 12 w := Jh zE
 obtain ⟨va, vk, rfl⟩ := hsl
 have hz1 : ¬ ((m : Int) = 0) := by omega
 have hin : n <= c := hnc
 have hnc' : (n : Int) <= (c : Int) := by omega
 go_enter Tryz.func152, Tryz.ntmps152
 cases base with
 | none =>
   have h0 := hbase rfl
   have hn0 : n = 0 := by omega
   subst h0
   subst hn0
   go_wp2_with (at_builtin; refine Lib.wpList_append_run _ rfl _ _ _ _ rfl _ _ rfl rfl _ _ (hap _) ?_)
   go_ret
   exact ⟨rfl, rfl⟩
 | some a =>
   go_wp2_with (at_builtin; refine Lib.wpList_append_run _ rfl _ _ _ _ rfl _ _ rfl rfl _ _ (hap _) ?_)
   all_goals (go_ret; exact ⟨rfl, rfl⟩)
set_option maxHeartbeats 4000000 in
theorem Q2a 
 (w : World) (b N n c i m G vb voff vc : Nat) (hm : 0 < m) (hi : i < n) (hnc : n <= c) (hroom : c < n + m) (hG : n + m <= G) (hn63 : n + m <= 35184372088832)
 (w1 w2 w3 : World) (hap : ∀ ty, (Builtin.append_ #[34, 3] ty #[.slice (some ⟨b, 0, none⟩) i c, .int .i64 ((n : Int) + (m : Int) - (i : Int))]).run Tryz.prog w = .ok (.slice (some ⟨N, 0, none⟩) (n + m) G) w1)
 (hcp1 : ∀ ty dc, (Builtin.copy_ #[34, 34] ty #[.slice (some ⟨N, i * 12, none⟩) (n + m - i) dc, .slice (some ⟨vb, voff, none⟩) m vc]).run Tryz.prog w1 = .ok (goInt m) w2)
 (hcp2 : ∀ ty dc sc, (Builtin.copy_ #[34, 34] ty #[.slice (some ⟨N, (i + m) * 12, none⟩) (n + m - (i + m)) dc, .slice (some ⟨b, i * 12, none⟩) (n - i) sc]).run Tryz.prog w2.drew = .ok (goInt ((n - i : Nat) : Int)) w3) :
 Calls Tryz.prog 152 #[.slice (some ⟨b, 0, none⟩) n c, .int .i64 i, .slice (some ⟨vb, voff, none⟩) m vc] w fun e w' => e = .returned (.slice (some ⟨N, 0, none⟩) (n + m) G) /\ w' = w3 := by
 have mixed := Tryz.checked.mixed
 have r34 := Qm (P := Tryz.prog) uS; have r3 := Qm (P := Tryz.prog) uI; have r4 := Qm (P := Tryz.prog) uB
 have z129 : ∀ w, (Go.sizeOf 107).run Tryz.prog w = .ok 12 w := Jh zE
 have hz1 : ¬ ((m : Int) = 0) := by omega
 have hz2 : ¬ ((i : Int) = (n : Int)) := by omega
 have hz3 : (c : Int) < (n : Int) + (m : Int) := by omega
 have hw0 : IntKind.i64.wrap ((n : Int) + (m : Int)) = (n : Int) + (m : Int) := by rw [IntKind.wrap_i64]; omega
 have hw1 : IntKind.i64.wrap ((i : Int) + (m : Int)) = (i : Int) + (m : Int) := by rw [IntKind.wrap_i64]; omega
 have hw2 : IntKind.i64.wrap ((n : Int) + (m : Int) - (i : Int)) = (n : Int) + (m : Int) - (i : Int) := by rw [IntKind.wrap_i64]; omega
 have hb0 : (0 : Int) <= (n : Int) + (m : Int) := by omega
 have hb1 : (0 : Int) <= (i : Int) + (m : Int) := by omega
 have hin : i <= n := by omega
 have hic : i <= c := by omega
 have htn0 : ((n : Int) + (m : Int)).toNat = n + m := by omega
 have htn : ((i : Int) + (m : Int)).toNat = i + m := by omega
 have hGi : ¬ (G = i) := by omega
 have hGim : ¬ (G = i + m) := by omega
 have hci : ¬ (c = i) := by omega
 have hb3 : (i : Int) <= (n : Int) := by omega
 have hb5 : (i : Int) + (m : Int) <= (n : Int) + (m : Int) := by omega
 have hb6 : (i : Int) <= (n : Int) + (m : Int) := by omega
 have hb7 : (i : Int) <= (c : Int) := by omega
 have hb8 : (n : Int) <= (c : Int) := by omega
 go_enter Tryz.func152, Tryz.ntmps152
 go_wp2_with (first
  | (at_builtin; refine Lib.wpList_append_run _ rfl _ _ _ _ rfl _ _ rfl rfl _ _ (hap _) ?_)
  | (at_builtin; refine Qc7 _ rfl _ _ 34 34 rfl _ _ rfl rfl (hcp1 _ _) ?_))
 go_region_law_o (refine Qeo rfl _ _ 34 34 rfl _ _ (by simp [Act.eval, Act.put]) (by simp [Act.eval, Act.put]) (hcp2 _ _ _) ?_)
 go_wp2
 go_ret
 exact ⟨rfl, rfl⟩
theorem Qlb {w : World} {b2 o2 c2 : Nat} {cur2 : Array Value} {T2 : TypeId} {us rest2 : List Value} (hb2 : w.heap[b2]? = some (.cells cur2 T2 (0, 0))) (hc2 : cur2.toList = us ++ rest2) (hol : o2 + 12 <= us.length) (w' : World) (hw : w'.heap[b2]? = w.heap[b2]?) :
 (Builtin.firstCells 12 1 (.slice (some ⟨b2, o2, none⟩) 1 c2)).run Tryz.prog w' = .ok ⟨(us.drop o2).take 12⟩ w' := by
 have h1 := (Qcy hw (Qzd hb2 hc2)).take o2 12
 rw [Nat.zero_add] at h1
 have := Zp (P := Tryz.prog) (esz := 12) (k := 1) (n := 1) (cap := c2) h1 (by simp only [List.length_take, List.length_drop]; omega) (Nat.le_refl _) 1
 rw [this, Nat.one_mul, List.take_take, Nat.min_self]
theorem Q41 : Qsi Tryz.prog 152 12 96 where
 body := ⟨_, _, Tryz.func152, rfl⟩
 num := fun F hF => by rw [Tryz.func152] at hF; cases hF; rfl
 room := fun w b len c i cur T vs rest b2 o2 c2 cur2 T2 us rest2 hb hcur hvl hb2 hcur2 hol hbb hi hfit hcsz h1v h1u hroomy => by
  have hle := (Xs hroomy).2
  have hnew1 : ∀ v ∈ (us.drop o2).take 12, v.oneCell' = true := fun v hv => h1u v (List.mem_of_mem_drop (List.mem_of_mem_take hv))
  have hnl : ((us.drop o2).take 12).length = 12 := by simp only [List.length_take, List.length_drop]; omega
  have hcs : cur.size = vs.length + rest.length := by
   have := congrArg List.length hcur
   simpa using this
  rcases Nat.lt_or_ge i len with hlt | hge
  . have hov : ∀ lb cb, (callFunc 197 #[.slice (some ⟨b2, o2, none⟩) 1 c2, .slice (some ⟨b, (i + 1) * 12, none⟩) lb cb]).run Tryz.prog w = .ok (.value (.bool false)) w := fun lb cb => by
     rw [run_callFunc_extern Tryz.func197 (by kernel_rfl) (by kernel_rfl) (by kernel_rfl) (e := Extern.SlicesOverlaps.overlaps Tryz.f197.params Tryz.f197.resultTypes) (by kernel_rfl)]
     have := Lib.run_overlaps_apart (P := Tryz.prog) w 34 4 107 uS 12 (Jh zE) ⟨b2, o2, none⟩ ⟨b, (i + 1) * 12, none⟩ 1 c2 lb cb (fun e => hbb e.symm) T2 T cur2.size cur.size
      (by simp [World.shape?, hb2]) (by simp [World.shape?, hb]) (by omega) (by simp [World.frozen?, hb2]) (by simp [World.frozen?, hb2])
     change ((Extern.SlicesOverlaps.overlaps #[34, 34] #[4] _).run _ _).andThen _ = _
     rw [this]; rfl
    have hLv := Qzd hb hcur
    have htl : (vs.drop (i * 12)).length = (len - i) * 12 := by rw [List.length_drop, hvl, Nat.sub_mul]
    have hsrc1 : ∀ sc, (Builtin.firstCells 12 (len - i) (.slice (some ⟨b, i * 12, none⟩) (len + 1 - i) sc)).run Tryz.prog w.drew = .ok ⟨vs.drop (i * 12)⟩ w.drew := fun sc => by
     have h1 := (Qcy (w' := w.drew) rfl hLv).take (i * 12) ((len - i) * 12)
     rw [Nat.zero_add, <- htl, List.take_length] at h1
     have := Zp (P := Tryz.prog) (esz := 12) (k := len - i) (n := len - i) (cap := sc) h1 htl (Nat.le_refl _) (len + 1 - i)
     rw [this, <- htl, List.take_length]
    have hcp1 : ∀ ty dc sc, (Builtin.copy_ #[34, 34] ty #[.slice (some ⟨b, (i + 1) * 12, none⟩) (len + 1 - (i + 1)) dc, .slice (some ⟨b, i * 12, none⟩) (len + 1 - i) sc]).run Tryz.prog w.drew = .ok (goInt ((len - i : Nat) : Int)) (w.drew.setRow b ⟨splice cur.toList ((i + 1) * 12) (vs.drop (i * 12))⟩) := fun ty dc sc =>
     Qga (t := 34) (ts := #[34, 34]) rfl uS zE (w := w.drew) hb (fun _ => rfl) (by simp only [Nat.min_def]; split <;> omega) (hsrc1 sc) (by rw [htl]; omega) (fun v hv => h1v v (List.mem_of_mem_drop hv))
    have hb' : (w.drew.setRow b ⟨splice cur.toList ((i + 1) * 12) (vs.drop (i * 12))⟩).heap[b]? = some (.cells ⟨splice cur.toList ((i + 1) * 12) (vs.drop (i * 12))⟩ T (0, 0)) := setRow_heap w.drew b cur _ T (0, 0) hb
    have hsl : (splice cur.toList ((i + 1) * 12) (vs.drop (i * 12))).length = cur.size := by
     rw [Yd _ _ _ (by rw [htl, Array.length_toList]; omega), Array.length_toList]
    have hcp2 : ∀ ty dc, (Builtin.copy_ #[34, 34] ty #[.slice (some ⟨b, i * 12, none⟩) (len + 1 - i) dc, .slice (some ⟨b2, o2, none⟩) 1 c2]).run Tryz.prog (w.drew.setRow b ⟨splice cur.toList ((i + 1) * 12) (vs.drop (i * 12))⟩) =
     .ok (goInt (1 : Nat)) ((w.drew.setRow b ⟨splice cur.toList ((i + 1) * 12) (vs.drop (i * 12))⟩).setRow b ⟨splice (splice cur.toList ((i + 1) * 12) (vs.drop (i * 12))) (i * 12) ((us.drop o2).take 12)⟩) := fun ty dc =>
     Qga (t := 34) (ts := #[34, 34]) rfl uS zE hb' (fun _ => rfl) (by simp only [Nat.min_def]; split <;> omega)
      (Qlb hb2 hcur2 hol _ (by rw [setRow_other _ _ _ _ (fun e => hbb e.symm)]; rfl)) (by rw [hnl]; show i * 12 + 12 <= (splice cur.toList ((i + 1) * 12) (vs.drop (i * 12))).length; rw [hsl]; omega) hnew1
    refine (Q4v w b len c i 1 b2 o2 c2 (by omega) hlt hfit hle hov _ _ hcp1 hcp2).mono ?_
    rintro e w' ⟨rfl, rfl⟩
    refine ⟨rfl, w.drawn + 1, ?_⟩
    rw [setRow_setRow, hcur, show (i + 1) * 12 = i * 12 + 12 by omega, Qoo vs rest _ (i * 12) 12 (by omega) hnl (by omega)]
    rfl
  . have hie : i = len := by omega
    subst hie
    have hap : ∀ ty, (Builtin.append_ #[34, 34] ty #[.slice (some ⟨b, 0, none⟩) i c, .slice (some ⟨b2, o2, none⟩) 1 c2]).run Tryz.prog w = .ok (.slice (some ⟨b, 0, none⟩) (i + 1) c) (w.setRow b ⟨splice cur.toList (0 + i * 12) ((us.drop o2).take 12)⟩) := fun ty =>
     AM.run_append_room (t := 34) (t2 := 34) (ts := #[34, 34]) rfl rfl uS zE byE (.other _ 1 _ _ uS (fun k e => by cases e) (fun _ => rfl) (fun w' hw => Qlb hb2 hcur2 hol w' (by rw [hw]))) hfit hb (by rw [hnl]; omega) hnew1
    refine (Qyz w (some ⟨b, 0, none⟩) i c 1 _ (by omega) (fun _ => rfl) ⟨_, _, rfl⟩ hle (by omega) (fun h => by cases h) _ _ hap).mono ?_
    rintro e w' ⟨rfl, rfl⟩
    refine ⟨rfl, w.drawn, ?_⟩
    have e1 : splice cur.toList (0 + i * 12) ((us.drop o2).take 12) = (vs.take (i * 12) ++ (us.drop o2).take 12 ++ vs.drop (i * 12)) ++ rest.drop 12 := by
     have h2 : vs.take (i * 12) = vs := List.take_of_length_le (by omega)
     have h3 : vs.drop (i * 12) = [] := List.drop_of_length_le (by omega)
     rw [h2, h3, hcur, Nat.zero_add, Qqu vs rest _ _ (by omega), hnl, List.append_nil]
    rw [e1]
    rfl
 grow := fun w base len c i vs b2 o2 c2 cur2 T2 us rest2 hnil hlies hvl hb2 hcur2 hol hi hc h1v h1u hroomy => by
  subst hc
  have hle := (Xs hroomy).2
  have hnew1 : ∀ v ∈ (us.drop o2).take 12, v.oneCell' = true := fun v hv => h1u v (List.mem_of_mem_drop (List.mem_of_mem_take hv))
  have hnl : ((us.drop o2).take 12).length = 12 := by simp only [List.length_take, List.length_drop]; omega
  obtain ⟨zv, hzv, hzs⟩ : ∃ zv, zer Tryz.prog 107 = some zv /\ zv.cells.size = 12 := by
   have := zcE
   cases hq : zer Tryz.prog 107 with
   | none => rw [hq] at this; cases this
   | some z => rw [hq] at this; exact ⟨z, rfl, by simpa using this⟩
  have hzl : ∀ k, (zerosN zv.cells.toList k).length = k * 12 := fun k => by rw [Z8, Array.length_toList, hzs]
  have hb2s : b2 < w.heap.size := (Array.getElem?_eq_some_iff.1 hb2).1
  rcases Nat.lt_or_ge i c with hlt | hge
  . cases base with
    | none => exact absurd (hnil rfl).1 (by omega)
    | some a =>
      obtain ⟨ab, ao, asp⟩ := a
      obtain ⟨h1, h2, hL⟩ := hlies _ rfl
      simp only at h1 h2 hL
      subst h1
      subst h2
      have habs : ab < w.heap.size := block_lt_of_cell (hL 0 _ (List.getElem?_eq_getElem (by omega)))
      have hold : ∀ w' : World, w'.heap = w.heap -> (Builtin.firstCells 12 i (.slice (some ⟨ab, 0, none⟩) i c)).run Tryz.prog w' = .ok ⟨vs.take (i * 12)⟩ w' := fun w' hw => by
       have h1 := (Qcy (w' := w') (by rw [hw]) hL)
       exact Zp (P := Tryz.prog) (esz := 12) (k := i) (n := c) (cap := c) h1 hvl hi i
      have hk : ((c : Int) + ((1 : Nat) : Int) - (i : Int)) = ((c + 1 - i : Nat) : Int) := by omega
      have htot : i + (c + 1 - i) = c + 1 := by omega
      have hgrow := fun ty => AM.run_append_grow (P := Tryz.prog) (w := w) (ty := ty) (ts := #[34, 3]) (t := 34) (t2 := 3) rfl rfl uS zE byE hzv (base := some ⟨ab, 0, none⟩) (sLen := i) (sCap := c) rfl
       (.zeros ((c + 1 - i : Nat) : Int) .i64 zv uI (by omega) (by
         rw [Int.toNat_natCast]
         unfold Yq at hroomy ⊢
         have h96 : (c + 1 - i) * 96 <= (c + 1) * 96 := Nat.mul_le_mul_right _ (by omega)
         simp only [Bool.and_eq_true, decide_eq_true_eq] at hroomy ⊢
         omega) hzv hzs) hold (by rw [Int.toNat_natCast]; omega) (by rw [Int.toNat_natCast, htot]; exact hroomy)
      obtain ⟨G, hG, hap0⟩ := hgrow 0
      simp only [Int.toNat_natCast, htot] at hG hap0
      obtain ⟨row0, hrow0⟩ : ∃ row0, row0 = vs.take (i * 12) ++ zerosN zv.cells.toList (c + 1 - i) ++ zerosN zv.cells.toList (G - (c + 1)) := ⟨_, rfl⟩
      rw [<- hrow0] at hap0
      have hap : ∀ ty, (Builtin.append_ #[34, 3] ty #[.slice (some ⟨ab, 0, none⟩) i c, .int .i64 ((c : Int) + ((1 : Nat) : Int) - (i : Int))]).run Tryz.prog w = .ok (.slice (some ⟨w.heap.size, 0, none⟩) (c + 1) G) { w with heap := w.heap.push (.cells ⟨row0⟩ 107), drawn := w.drawn + 1 } := fun ty => by
       rw [hk]; exact hap0
      obtain ⟨w1, hw1⟩ : ∃ w1 : World, w1 = { w with heap := w.heap.push (.cells ⟨row0⟩ 107), drawn := w.drawn + 1 } := ⟨_, rfl⟩
      rw [<- hw1] at hap
      have hN : w1.heap[w.heap.size]? = some (.cells ⟨row0⟩ 107 (0, 0)) := by rw [hw1]; simp
      have hO : ∀ k, k < w.heap.size -> w1.heap[k]? = w.heap[k]? := fun k hk => by
       rw [hw1]; simp only [Array.getElem?_push, if_neg (show ¬ k = w.heap.size by omega)]
      have hr0l : row0.length = G * 12 := by
       rw [hrow0]; simp only [List.length_append, hzl, List.length_take]; omega
      have htl : (vs.drop (i * 12)).length = (c - i) * 12 := by rw [List.length_drop, hvl, Nat.sub_mul]
      have hcp1 : ∀ ty dc, (Builtin.copy_ #[34, 34] ty #[.slice (some ⟨w.heap.size, i * 12, none⟩) (c + 1 - i) dc, .slice (some ⟨b2, o2, none⟩) 1 c2]).run Tryz.prog w1 = .ok (goInt (1 : Nat)) (w1.setRow w.heap.size ⟨splice row0 (i * 12) ((us.drop o2).take 12)⟩) := fun ty dc =>
       Qga (t := 34) (ts := #[34, 34]) rfl uS zE hN (fun _ => rfl) (by simp only [Nat.min_def]; split <;> omega) (Qlb hb2 hcur2 hol _ (hO _ hb2s)) (by rw [hnl]; show i * 12 + 12 <= row0.length; rw [hr0l]; omega) hnew1
      obtain ⟨w2, hw2⟩ : ∃ w2 : World, w2 = w1.setRow w.heap.size ⟨splice row0 (i * 12) ((us.drop o2).take 12)⟩ := ⟨_, rfl⟩
      rw [<- hw2] at hcp1
      have hs1 : (splice row0 (i * 12) ((us.drop o2).take 12)).length = G * 12 := by
       rw [Yd _ _ _ (by rw [hnl, hr0l]; omega), hr0l]
      have hN2 : w2.drew.heap[w.heap.size]? = some (.cells ⟨splice row0 (i * 12) ((us.drop o2).take 12)⟩ 107 (0, 0)) := by
       rw [hw2]; exact setRow_heap w1 w.heap.size _ _ _ (0, 0) hN
      have hsrc2 : ∀ sc, (Builtin.firstCells 12 (c - i) (.slice (some ⟨ab, i * 12, none⟩) (c - i) sc)).run Tryz.prog w2.drew = .ok ⟨vs.drop (i * 12)⟩ w2.drew := fun sc => by
       have hh : w2.drew.heap[ab]? = w.heap[ab]? := by
        rw [hw2]
        change (w1.setRow w.heap.size _).heap[ab]? = _
        rw [setRow_other _ _ _ _ (by omega), hO _ habs]
       have h1 := (Qcy hh hL).take (i * 12) ((c - i) * 12)
       rw [Nat.zero_add, <- htl, List.take_length] at h1
       have := Zp (P := Tryz.prog) (esz := 12) (k := c - i) (n := c - i) (cap := sc) h1 htl (Nat.le_refl _) (c - i)
       rw [this, <- htl, List.take_length]
      have hcp2 : ∀ ty dc sc, (Builtin.copy_ #[34, 34] ty #[.slice (some ⟨w.heap.size, (i + 1) * 12, none⟩) (c + 1 - (i + 1)) dc, .slice (some ⟨ab, i * 12, none⟩) (c - i) sc]).run Tryz.prog w2.drew =
       .ok (goInt ((c - i : Nat) : Int)) (w2.drew.setRow w.heap.size ⟨splice (splice row0 (i * 12) ((us.drop o2).take 12)) ((i + 1) * 12) (vs.drop (i * 12))⟩) := fun ty dc sc =>
       Qga (t := 34) (ts := #[34, 34]) rfl uS zE hN2 (fun _ => rfl) (by simp only [Nat.min_def]; split <;> omega) (hsrc2 sc) (by rw [htl]; show (i + 1) * 12 + (c - i) * 12 <= (splice row0 (i * 12) ((us.drop o2).take 12)).length; rw [hs1]; omega) (fun v hv => h1v v (List.mem_of_mem_drop hv))
      refine (Q2a w ab w.heap.size c c i 1 G b2 o2 c2 (by omega) hlt (Nat.le_refl _) (by omega) hG hle w1 w2 _ hap hcp1 hcp2).mono ?_
      rintro e w' ⟨rfl, rfl⟩
      refine ⟨G, w.drawn + 2, 107, zerosN zv.cells.toList (G - (c + 1)), hG, hzl _, rfl, ?_⟩
      have e1 : splice (splice row0 (i * 12) ((us.drop o2).take 12)) ((i + 1) * 12) (vs.drop (i * 12)) = (vs.take (i * 12) ++ (us.drop o2).take 12 ++ vs.drop (i * 12)) ++ zerosN zv.cells.toList (G - (c + 1)) := by
       rw [hrow0, show (i + 1) * 12 = i * 12 + 12 by omega]
       exact Qo9 _ _ _ _ _ (i * 12) 12 (by rw [List.length_take]; omega) hnl (by rw [hzl, htl]; omega)
      rw [e1, hw2, hw1]
      change ((({ w with heap := w.heap.push (.cells ⟨row0⟩ 107), drawn := w.drawn + 2 } : World).setRow w.heap.size _).setRow w.heap.size _) = _
      rw [setRow_setRow]
      exact Qur { w with drawn := w.drawn + 2 } ⟨row0⟩ _ 107 w.heap
  . have hie : i = c := by omega
    subst hie
    have hold : ∀ w' : World, w'.heap = w.heap -> (Builtin.firstCells 12 i (.slice base i i)).run Tryz.prog w' = .ok ⟨vs⟩ w' := fun w' hw => by
     cases base with
     | none =>
       obtain ⟨h0, _⟩ := hnil rfl
       subst h0
       have : vs = [] := List.eq_nil_of_length_eq_zero (by omega)
       subst this
       simp [Builtin.firstCells]
     | some a =>
       obtain ⟨ab, ao, asp⟩ := a
       obtain ⟨h1, h2, hL⟩ := hlies _ rfl
       simp only at h1 h2 hL
       subst h1
       subst h2
       have := Zp (P := Tryz.prog) (esz := 12) (k := i) (n := i) (cap := i) (Qcy (w' := w') (by rw [hw]) hL) hvl (Nat.le_refl _) i
       rw [this, <- hvl, List.take_length]
    have hgrow := fun ty => AM.run_append_grow (P := Tryz.prog) (w := w) (ty := ty) (ts := #[34, 34]) (t := 34) (t2 := 34) rfl rfl uS zE byE hzv (base := base) (sLen := i) (sCap := i) (m := 1) (x := .slice (some ⟨b2, o2, none⟩) 1 c2) rfl
     (.other _ 1 _ _ uS (fun k e => by cases e) (fun _ => rfl) (fun w' hw => Qlb hb2 hcur2 hol w' (by rw [hw]))) hold (by omega) hroomy
    obtain ⟨G, hG, hap0⟩ := hgrow 0
    refine (Qyz w base i i 1 _ (by omega) (fun _ => rfl) ⟨_, _, rfl⟩ hle (Nat.le_refl _) (fun h => (hnil h).2) _ _ (fun ty => hap0)).mono ?_
    rintro e w' ⟨rfl, rfl⟩
    refine ⟨G, w.drawn + 1, 107, zerosN zv.cells.toList (G - (i + 1)), hG, hzl _, rfl, ?_⟩
    have h2 : vs.take (i * 12) = vs := List.take_of_length_le (by omega)
    have h3 : vs.drop (i * 12) = [] := List.drop_of_length_le (by omega)
    rw [h2, h3, List.append_nil]
end Go.Proofs.YtafhcdagifopeaaGreatDoor
end
namespace Go.Proofs.YtafhcdagifopeaaGreatDoor
section
open Go.AM Go.AM.BM
noncomputable def Qi6 (K : FuncId -> Option Qa8) : BM.Pol where
 prim := fun f => match f with
  | 141 => some (Qnd Qyp)
  | 177 => some (Qnd (Qzf 178))
  | 126 => some (Qao Qne)
  | 117 => some (Qnd kNew)
  | 185 => some (Qao kMax)
  | 146 => some (Qao kSum)
  | 136 => some (Qao kKey)
  | 48 => some (Qao kTxg)
  | 100 => some (Qao (Qy6 101))
  | 200 => some Qbm
  | 196 => some K9
  | 217 => some Y8
  | 269 => some Y0
  | _ => none
 fix := fun f => f == 182
 fixA := fun f => match f with
  | 258 => some 2
  | 180 => some 2
  | _ => none
 prims := fun f => match K f with
  | some g => some g
  | none => (match f with
    | 152 => some (Qwo 12 96)
    | _ => none)
theorem xMake : Kb Tryz.prog 200 (Extern.BytealgMakeNoZero.makeNoZero Tryz.f200.params Tryz.f200.resultTypes) := ⟨Tryz.f200, Tryz.func200, by kernel_rfl, by kernel_rfl, by kernel_rfl, by kernel_rfl⟩
theorem xCmpS : Kb Tryz.prog 196 Extern.BytealgCompare.compare := ⟨Tryz.f196, Tryz.func196, by kernel_rfl, by kernel_rfl, by kernel_rfl, by kernel_rfl⟩
theorem xCount : Kb Tryz.prog 217 Extern.BytealgCount.count := ⟨Tryz.f217, Tryz.func217, by kernel_rfl, by kernel_rfl, by kernel_rfl, by kernel_rfl⟩
theorem xIndex : Kb Tryz.prog 269 Extern.BytealgIndexByte.indexByte := ⟨Tryz.f269, Tryz.func269, by kernel_rfl, by kernel_rfl, by kernel_rfl, by kernel_rfl⟩
theorem Qnj {K : FuncId -> Option Qa8} {f : FuncId} {g : BM.Prim} (h : (Qi6 K).prim f = some g) :
 (f = 141 /\ g = Qnd Qyp) \/ (f = 177 /\ g = Qnd (Qzf 178)) \/ (f = 126 /\ g = Qao Qne) \/ (f = 117 /\ g = Qnd kNew) \/ (f = 185 /\ g = Qao kMax) \/ (f = 146 /\ g = Qao kSum) \/ (f = 136 /\ g = Qao kKey) \/ (f = 48 /\ g = Qao kTxg) \/ (f = 100 /\ g = Qao (Qy6 101)) \/ (f = 200 /\ g = Qbm) \/ (f = 196 /\ g = K9) \/ (f = 217 /\ g = Y8) \/ (f = 269 /\ g = Y0) := by
 simp only [Qi6] at h
 split at h <;> cases h <;> simp
theorem Qnl {K : FuncId -> Option Qa8} (hK : ∀ f g, K f = some g -> B5 Tryz.prog f g) {f : FuncId} {g : Qa8} (h : (Qi6 K).prims f = some g) : B5 Tryz.prog f g := by
 simp only [Qi6] at h
 split at h
 . cases h; exact hK _ _ (by assumption)
 . split at h
   . cases h; exact ins_ok Q41
   . cases h
theorem okC {K : FuncId -> Option Qa8} (hK : ∀ f g, K f = some g -> B5 Tryz.prog f g) : BM.Okay Tryz.prog (Qi6 K) where
 mixed := Tryz.checked.mixed
 draws := fun f F c hF hc => by
  rw [Q0q]; exact okD.draws f F c hF hc
 loops := fun f F c hF hc => by
  rw [Q2i]; exact okD.loops f F c hF hc
 num := okD.num
 prim := fun f g hg B F H E fr dst args cargs v x S one h0 htab hr h => by
  rcases Qnj hg with ⟨rfl, rfl⟩ | ⟨rfl, rfl⟩ | ⟨rfl, rfl⟩ | ⟨rfl, rfl⟩ | ⟨rfl, rfl⟩ | ⟨rfl, rfl⟩ | ⟨rfl, rfl⟩ | ⟨rfl, rfl⟩ | ⟨rfl, rfl⟩ | ⟨rfl, rfl⟩ | ⟨rfl, rfl⟩ | ⟨rfl, rfl⟩ | ⟨rfl, rfl⟩
  . exact Qhl okD Q12 B F H E fr dst args cargs v x S one h0 htab hr h
  . exact Qhl okD Q2n B F H E fr dst args cargs v x S one h0 htab hr h
  . exact Bh okD Qqc B F H E fr dst args cargs v x S one h0 htab hr h
  . exact Qhl okD Q6a B F H E fr dst args cargs v x S one h0 htab hr h
  . exact Bh okD Q8n B F H E fr dst args cargs v x S one h0 htab hr h
  . exact Bh okD Q6x B F H E fr dst args cargs v x S one h0 htab hr h
  . exact Bh okD Q8i B F H E fr dst args cargs v x S one h0 htab hr h
  . exact Bh okD Q7d B F H E fr dst args cargs v x S one h0 htab hr h
  . exact Bh okD Q3s B F H E fr dst args cargs v x S one h0 htab hr h
  . exact Qd8 one (AM.sound_make xMake (e := 5) (by kernel_rfl) S (by omega) hr h)
  . exact Qd8 one (AM.sound_compare xCmpS S hr h)
  . exact Qd8 one (AM.sound_count xCount S hr h)
  . exact Qd8 one (AM.sound_indexByte xIndex S hr h)
 loop := fun f F c _ _ => Qui (fun _ => rfl) c
 tame := {
  prim := fun f g hg nm G G' args v w hle hn h => by
   rcases Qnj hg with ⟨rfl, rfl⟩ | ⟨rfl, rfl⟩ | ⟨rfl, rfl⟩ | ⟨rfl, rfl⟩ | ⟨rfl, rfl⟩ | ⟨rfl, rfl⟩ | ⟨rfl, rfl⟩ | ⟨rfl, rfl⟩ | ⟨rfl, rfl⟩ | ⟨rfl, rfl⟩ | ⟨rfl, rfl⟩ | ⟨rfl, rfl⟩ | ⟨rfl, rfl⟩
   . exact Qiz _ nm G G' args v w hle h
   . exact Qiz _ nm G G' args v w hle h
   . exact Qaa _ nm G G' args v w hle h
   . exact Qiz _ nm G G' args v w hle h
   . exact Qaa _ nm G G' args v w hle h
   . exact Qaa _ nm G G' args v w hle h
   . exact Qaa _ nm G G' args v w hle h
   . exact Qaa _ nm G G' args v w hle h
   . exact Qaa _ nm G G' args v w hle h
   . exact Qnv nm G G' args v w hle hn h
   . exact Qjv nm G G' args v w hle h
   . exact Qlv nm G G' args v w hle h
   . exact Qhb nm G G' args v w hle h
  loop := fun fn r g hg => by cases hg
  prims := fun f g hg => (Qnl hK hg).tame }
 prims := fun f g hg => (Qnl hK hg).sound
theorem nlC (K : FuncId -> Option Qa8) : Qbb (Qi6 K) := fun _ _ => rfl
end
end Go.Proofs.YtafhcdagifopeaaGreatDoor
