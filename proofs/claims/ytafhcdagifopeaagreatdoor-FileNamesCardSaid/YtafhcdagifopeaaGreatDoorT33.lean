/- This file holds in one the texts D6, D7, D8, D9; each says at its head what it proves. -/
import Derived.Test.YtafhcdagifopeaaGreatDoorT27
import Derived.Test.YtafhcdagifopeaaGreatDoorT28
import Derived.Test.YtafhcdagifopeaaGreatDoorT32
set_option linter.unusedSimpArgs false
set_option linter.unusedVariables false
namespace Go.Proofs.YtafhcdagifopeaaGreatDoor
section
set_option maxRecDepth 100000
open Go.AM
attribute [local irreducible] U W
theorem Q5j : callN Tryz.prog Qz 60 (some 199) [.int .u64 1, .int .u64 256] [] = some (.ret (.tuple [.int .u64 0, .int .u64 256]), []) := by kernel_rfl
theorem mul_fz : Fz Tryz.prog Qz 199 [.int .u64 1, .int .u64 256] fun x => x = .tuple [.int .u64 0, .int .u64 256] :=
 ⟨_, _, _, Yl.2 ⟨60, Q5j⟩, Q7t (Qt rfl (Qt rfl rfl)), rfl⟩
theorem Q5t (n m : Nat) (x : Int) : List.replicate n x ++ List.replicate m x = List.replicate (n + m) x := by
 induction n with
 | zero => simp
 | succ n ih => rw [List.replicate_succ, Zkg, ih, Nat.succ_add, List.replicate_succ]
def Ks (n : Nat) : List Int := List.replicate n 256 ++ List.replicate (256 - n) 0
theorem Bi {n : Nat} (h : n <= 256) : (Ks n).length = 256 := by simp [Ks]; omega
theorem Q0c {n m : Nat} (h : m <= n) : (Q3 (Ks n)).take m = Q3 (List.replicate m 256) := by
 have : (List.replicate n (256 : Int) ++ List.replicate (256 - n) 0).take m = List.replicate m 256 := by
  rw [List.take_append_of_le_length (by simp; exact h), List.take_replicate]; congr 1; omega
 rw [Q3, <- List.map_take, Ks, this]; rfl
theorem Qkb {n m : Nat} (h : n + m <= 256) : splice (Q3 (Ks n)) n (Q3 (List.replicate m 256)) = Q3 (Ks (n + m)) := by
 have e : splice (Ks n) n (List.replicate m 256) = Ks (n + m) := by
  unfold splice Ks
  rw [List.take_left' (by simp), Zll, List.drop_append, Zkz (by simp), Zll, Zkj, List.drop_replicate, Q5t]
  congr 2; omega
 rw [<- e]
 simp [splice, Q3]
theorem Q52 {P : Program} {u e : TypeId} (hu : P.underlying u = some (.slice e)) {q : Nat} (hs : sz P e = some q) {g : Get} {f s o len c n : Nat} {k : IntKind} (h : n <= c) (h2 : 0 < c) (h3 : len <= c) :
 Z6 P g u (.mS f s o len (some c) q) none (some (.int k n)) none = some (.mS f s o n (some c) q) := by
 simp only [Z6, Bc, hu, hs, if_true, Qpd, Bo, Zk7, Zkt]
 rw [if_pos ⟨by omega, by omega, by omega, by omega, by omega, by omega, by simp⟩]
 simp
theorem Qz4 : Fz Tryz.prog Qz 156 [.iS [.int .i64 256] 1 true, .int .i64 256] fun x => x = .iS (Q3 (Ks 256)) 256 true := by
 refine Js Tryz.func156 rfl ?_
 obtain ⟨m, rfl, hm⟩ := mul_fz.op (by rfl) rfl
 have hm' : ∀ s H, _ := fun s H => hm 156 0 s H rfl
 have cv : ∀ g, convertV Tryz.prog g 3 203 (.int .i64 ((1 : Nat) : Int)) = some (.val (.int .u64 1) none) := fun g => by simp only [convertV, Tryz.underlying3, Tryz.underlying203]; rfl
 have cv2 : ∀ g, convertV Tryz.prog g 3 203 (.int .i64 256) = some (.val (.int .u64 256) none) := fun g => by simp only [convertV, Tryz.underlying3, Tryz.underlying203]; rfl
 have cv3 : ∀ g, convertV Tryz.prog g 203 3 (.int .u64 256) = some (.val (.int .i64 256) none) := fun g => by simp only [convertV, Tryz.underlying3, Tryz.underlying203]; rfl
 have rm : Yq 256 8 = true := by decide
 have hZ : zerosN [V.int .i64 0] 256 = Q3 (Ks 0) := by kernel_rfl
 have hZ' : zerosN [V.int .i64 0] (256 : Int).toNat = Q3 (Ks 0) := hZ
 have c0 : decide ((0 : Int) > 0) = false := rfl
 have c1 : decide ((256 : Int) > 9223372036854775807) = false := rfl
 have cp0 : Qap Tryz.prog (Qb [[(30, .cells (Q3 (Ks 0)))]]) 32 (.mS 0 30 0 256 (some 256) 1) (.iS [.int .i64 256] 1 true) = some (.val (.int .i64 1) (some (0, 30, .cells (Q3 (Ks 1))))) := by
  have sc : Xi (Qb [[(30, .cells (Q3 (Ks 0)))]]) 1 (.iS [.int .i64 256] 1 true) = some (Q3 (List.replicate 1 256), 1) := rfl
  have hg : Qb [[(30, O.cells (Q3 (Ks 0)))]] 0 30 = some (.cells (Q3 (Ks 0))) := rfl
  simp only [Qap, Tryz.underlying32, sz3, sc, B4, hg, if_true]
  have sp := Qkb (n := 0) (m := 1) (by omega)
  have tk : (Q3 (List.replicate 1 256)).take (min 1 256 * 1) = Q3 (List.replicate 1 256) := rfl
  rw [tk, sp, if_pos ⟨by rw [Xu, Bi (by omega)]; decide, rfl⟩]
  rfl
 simp only [Qn, Qg, Qf, Ql, Qa, Qc, nov, gd, rho, Qd, wr, Nat.reduceAdd, Nat.reduceSub, if_true, if_false, reduceIte, reduceCtorEq, Qi, Int.reduceBEq, Int.reduceBNe, Int.reduceLT, Int.reduceLE, ↓Qh, Tryz.ntmps156, ta, new, Qb, hset, Qu, Qs, Qp, Nat.reduceLT, Nat.reduceEqDiff, cv, cv2, cv3, hm', c0, c1, Tryz.underlying32, by64, Int.reduceToNat, rm, and_self, hZ, hZ', Qrt, cp0, Int.reduceGT]
 refine W.ul ?_
 refine W.loopS (kt := [7, 8]) rfl (fun n : Nat => Qzc (.mS 0 30 0 256 (some 256) 1) (.int .i64 n)) (fun n => [[(30, .cells (Q3 (Ks n)))]]) (fun n => 1 <= n /\ n <= 256) (fun n => 256 - n) ?_ 1 (by omega) rfl rfl
 rintro n ⟨h1, h2⟩
 simp only [Qzc]
 have len := fun g => len_m (P := Tryz.prog) Tryz.underlying32 (f := 0) (s := 30) (o := 0) (len := 256) (esz := 1) (cap := some 256) g
 by_cases h : n < 256
 . have c2 : decide ((n : Int) < ((256 : Nat) : Int)) = true := Zlq (by omega)
   have sl1 : ∀ g, Z6 Tryz.prog g 32 (.mS 0 30 0 256 (some 256) 1) (some (.int .i64 n)) none none = some (.mS 0 30 n (256 - n) (some (256 - n)) 1) := fun g => by
    have := Qs4 (P := Tryz.prog) (u := 32) Tryz.underlying32 sz3 (f := 0) (s := 30) (o := 0) (len := 256) (c := 256) (w := n) (k := .i64) (by omega) (by omega) g
    rw [this, if_neg (by omega)]; simp
   have sl2 : ∀ g, Z6 Tryz.prog g 32 (.mS 0 30 0 256 (some 256) 1) none (some (.int .i64 n)) none = some (.mS 0 30 0 n (some 256) 1) := fun g => Q52 Tryz.underlying32 sz3 (by omega) (by omega) (by omega)
   have cp : Qap Tryz.prog (Qb [[(30, .cells (Q3 (Ks n)))]]) 32 (.mS 0 30 n (256 - n) (some (256 - n)) 1) (.mS 0 30 0 n (some 256) 1) = some (.val (.int .i64 (min n (256 - n) : Nat)) (some (0, 30, .cells (Q3 (Ks (n + min n (256 - n))))))) := by
    have hg : Qb [[(30, O.cells (Q3 (Ks n)))]] 0 30 = some (.cells (Q3 (Ks n))) := rfl
    have hl : (Q3 (Ks n)).length = 256 := by rw [Xu, Bi h2]
    have sc : Xi (Qb [[(30, .cells (Q3 (Ks n)))]]) 1 (.mS 0 30 0 n (some 256) 1) = some (Q3 (List.replicate n 256), n) := by
     simp only [Xi, Qy, hg, List.drop_zero, Zju, Q0c (Zix n)]
     rw [if_pos ⟨trivial, by rw [hl]; omega⟩]
    have tk : (Q3 (List.replicate n 256)).take (min n (256 - n) * 1) = Q3 (List.replicate (min n (256 - n)) 256) := by
     rw [Zju, Q3, <- List.map_take, List.take_replicate]
     have : min (min n (256 - n)) n = min n (256 - n) := by omega
     rw [this]; rfl
    simp only [Qap, Tryz.underlying32, sz3, sc, B4, hg, if_true, tk]
    rw [Qkb (by omega), if_pos ⟨by rw [hl]; omega, Qob _⟩]
   have w1 : (IntKind.i64).wrap ((n : Int) + ((min n (256 - n) : Nat) : Int)) = ((n + min n (256 - n) : Nat) : Int) := by rw [wrap_i64] <;> omega
   simp only [Qn, Qg, Qf, Ql, Qa, Qc, nov, gd, rho, Qd, wr, Nat.reduceAdd, Nat.reduceSub, if_true, if_false, reduceIte, reduceCtorEq, Qi, Int.reduceBEq, Int.reduceBNe, Int.reduceLT, Int.reduceLE, ↓Qh, len, c2, sl1, sl2, Qrt, cp, new, Qb, hset, Qu, Qs, Qp, Nat.reduceLT, Nat.reduceEqDiff]
   refine W.opsK (by kernel_rfl) ?_
   simp only [Qn, Qg, Qf, Ql, Qa, Qc, nov, gd, rho, Qd, wr, Nat.reduceAdd, Nat.reduceSub, if_true, if_false, reduceIte, reduceCtorEq, Qi, Int.reduceBEq, Int.reduceBNe, Int.reduceLT, Int.reduceLE, ↓Qh, w1]
   exact W.done ⟨n + min n (256 - n), rfl, rfl, by omega, by omega⟩
 . have c2 : decide ((n : Int) < ((256 : Nat) : Int)) = false := Zlr (by omega)
   have hn : n = 256 := by omega
   subst hn
   simp only [Qn, Qg, Qf, Ql, Qa, Qc, nov, gd, rho, Qd, wr, Nat.reduceAdd, Nat.reduceSub, if_true, if_false, reduceIte, reduceCtorEq, Qi, Int.reduceBEq, Int.reduceBNe, Int.reduceLT, Int.reduceLE, ↓Qh, len, c2]
   refine W.done ?_
   simp only [Qn, Qg, Qf, Ql, Qa, Qc, nov, gd, rho, Qd, wr, Nat.reduceAdd, Nat.reduceSub, if_true, if_false, reduceIte, reduceCtorEq, Qi, Int.reduceBEq, Int.reduceBNe, Int.reduceLT, Int.reduceLE, ↓Qh]
   refine W.done (Zv.normal (v := .mS 0 30 0 256 (some 256) 1) rfl ?_ rfl)
   have e : ((Q3 (Ks 256)).drop 0).take (256 * 1) = Q3 (Ks 256) := by
    rw [List.drop_zero, Zli]; rw [Xu, Bi (Zix _)]; exact Zix _
   have := Qjq (g := Qb [[(30, O.cells (Q3 (Ks 256)))]]) (f := 0) (s := 30) (o := 0) (len := 256) (esz := 1) (cap := some 256) (m := 10) rfl (by rw [Xu, Bi (Zix _)]; exact Zix _) (by rw [e]; exact Qev _ _ _)
   rw [e] at this
   exact this
end
section
set_option maxRecDepth 100000
open Go.AM
attribute [local irreducible] U W
theorem Qwl (x : V) (n : Nat) : zerosN [x] n = List.replicate n x := by
 induction n with
 | zero => rfl
 | succ n ih => show [x] ++ zerosN [x] n = _; rw [ih, List.replicate_succ]; rfl
theorem Qtm (x : V) : Xl (fun _ => List.replicate 256 x) (zerosN [x] 65536) 256 = zerosN [x] 65536 := by
 rw [Qwl]
 refine List.eq_replicate_iff.2 ⟨?_, ?_⟩
 . exact Qdr (by rw [Zll]) (Zix _) (fun j _ => by rw [Zll])
 . intro b hb
   unfold Xl at hb
   rcases Zjn.1 hb with h | h
   . obtain ⟨l, hl, hbl⟩ := List.mem_flatten.1 h
     obtain ⟨j, _, rfl⟩ := Zjl.1 hl
     exact (List.mem_replicate.1 hbl).2
   . exact (List.mem_replicate.1 (Zk4 h)).2
def newV : V := .agg [.iS (List.replicate 256 (.iS (List.replicate 256 (.int .u8 0)) 256 true)) 256 false, .nS]
theorem Qxl : encD (fun _ => List.replicate 256 (.int .u8 0)) (fun _ => 0) (fun _ => []) 0 = newV := by
 have e : ((List.range 256).map fun j => V.iS ((fun _ => List.replicate 256 (V.int .u8 0)) j) 256 true) = List.replicate 256 (.iS (List.replicate 256 (.int .u8 0)) 256 true) := by
  rw [List.map_const', List.length_range]
 show V.agg [.iS ((List.range 256).map fun j => V.iS ((fun _ => List.replicate 256 (V.int .u8 0)) j) 256 true) 256 false, if 0 = 0 then .nS else _] = _
 rw [e, if_pos rfl]
 rfl
theorem new_fz : Fz Tryz.prog Qz 117 [] fun x => x = newV := by
 refine Js Tryz.func117 rfl ?_
 obtain ⟨m, rfl, hm⟩ := Qz4.op (by rfl) rfl
 have hm' : ∀ s H, _ := fun s H => hm 117 0 s H rfl
 have hr : ∀ i, i < 256 -> (Ks 256)[i]? = some 256 := fun i hi => by
  have : Ks 256 = List.replicate 256 256 := by simp only [Ks, Nat.sub_self, List.replicate_zero, Zj6]
  rw [this, List.getElem?_replicate, if_pos hi]
 have hv : Ba (.iS (Q3 (Ks 256)) 256 true) (Ks 256) := by
  have := Ba.mk (Ks 256) true
  rwa [Bi (Zix _)] at this
 have hwF : WF [[(0, O.cells [.nS, .nS])]] := rfl
 obtain ⟨rr, KK, hcall, rfl, rfl⟩ := Q3w [[(0, .cells [.nS, .nS])]] hwF (.iS (Q3 (Ks 256)) 256 true) (Ks 256) (Bi (Zix _)) hr hv
 have hcall' : callOp Qz (Q5 Tryz.prog Qz) 117 0 (some 3) 155 [.iS (Q3 (Ks 256)) 256 true] [[(0, .cells [.nS, .nS])]] = some (.ret (.gS 1 33 (Yp 1 256) 256 1), [[(0, .cells [.nS, .nS])], [(20, .cells (zerosN [.int .u8 0] 65536)), (33, .grow 256)]]) :=
  Qjw rfl rfl rfl rfl hcall
 generalize hZ : zerosN [V.int .u8 0] 65536 = Z at hcall'
 generalize hR : Yp 1 256 = R at hcall'
 generalize hQ : Q3 (Ks 256) = Q at hm' hcall'
 have mt1 : Qz.mt 117 1 = false := rfl
 simp only [Qn, Qg, Qf, Ql, Qa, Qc, nov, gd, rho, Qd, wr, Nat.reduceAdd, Nat.reduceSub, if_true, if_false, reduceIte, reduceCtorEq, Qi, Int.reduceBEq, Int.reduceBNe, Int.reduceLT, Int.reduceLE, ↓Qh, Tryz.ntmps117, ta, new, Qb, hset, Qu, Qs, Qp, Nat.reduceLT, Nat.reduceEqDiff, splice, zerosN, Qo, Qr, Qk, V.pure, Nat.reduceMul, Nat.reduceLeDiff, Qq, mt1, hm', hcall', Tryz.underlying32, sz3, zc3]
 refine W.done (Zv.ret (v := .agg [.gS 1 33 R 256 1, .nS]) ?_ ?_ rfl)
 . exact Qqi (f := 0) (s := 0) (o := 0) (xs := [.gS 1 33 R 256 1, .nS]) rfl rfl rfl (by rw [rd25]; rfl)
 rw [<- Qxl, <- hR]
 refine Ql5 0 _ (fun _ => List.replicate 256 (.int .u8 0)) (zerosN [.int .u8 0] 65536) (fun _ => 0) (fun _ => []) 0 (fun i _ => ⟨by rw [Zll], by
  rw [Zjk]; intro x hx; rw [(List.mem_replicate.1 hx).2]; rfl⟩) (Qbd _ _) ?_
 rw [Qtm, hZ]; rfl
end
section
set_option maxRecDepth 100000
open Go.AM
attribute [local irreducible] U W
def ent (x : Int × V) : V × V := (.int .i64 x.1, .agg [.int .i64 x.1, x.2])
def B0 : List (Int × V) -> Int -> V -> List (Int × V)
 | [], k, v => [(k, v)]
 | (k', v') :: r, k, v => if k = k' then (k, v) :: r else (k', v') :: B0 r k v
theorem Q4p (k : Int) (v : V) : ∀ (L : List (Int × V)) (i0 : Nat),
 (∃ j x, findKey (.int .i64 k) (L.map ent) i0 = some (some (i0 + j, x)) /\ (L.map ent).set j (ent (k, v)) = (B0 L k v).map ent /\ (B0 L k v).length = L.length) \/
 (findKey (.int .i64 k) (L.map ent) i0 = some none /\ L.map ent ++ [ent (k, v)] = (B0 L k v).map ent /\ (B0 L k v).length = L.length + 1)
 | [], i0 => .inr ⟨rfl, rfl, rfl⟩
 | (k', v') :: r, i0 => by
   have e : findKey (.int .i64 k) (((k', v') :: r).map ent) i0 = (match (if (k == k') then some true else some false : Option Bool) with
    | some true => some (some (i0, (ent (k', v')).2))
    | some false => findKey (.int .i64 k) (r.map ent) (i0 + 1)
    | none => none) := by
    show (match (if IntKind.i64 = IntKind.i64 then some (k == k') else none : Option Bool) with
    | some true => some (some (i0, (ent (k', v')).2))
    | some false => findKey (.int .i64 k) (r.map ent) (i0 + 1)
    | none => none) = _
    rw [if_pos rfl]
    cases (k == k') <;> rfl
   rw [e]
   by_cases h : k = k'
   . subst h
     refine .inl ⟨0, _, by simp; rfl, ?_, ?_⟩
     . simp [B0]
     . simp [B0]
   . have hb : (k == k') = false := by simp [h]
     rw [hb]
     simp only [Ziw, if_false, B0, h]
     rcases Q4p k v r (i0 + 1) with ⟨j, x, h1, h2, h3⟩ | ⟨h1, h2, h3⟩
     . refine .inl ⟨j + 1, x, by rw [h1]; congr 3; omega, ?_, ?_⟩
       . simp only [Zje, List.set_cons_succ, h2]
       . simp only [Zja, h3]
     . exact .inr ⟨h1, by simp only [Zje, Zkg, h2], by simp only [Zja, h3]⟩
def Qg7 (L : List (Int × V)) : O := .map (L.map ent) (List.range L.length) L.length
theorem upd_L {g : Get} {f s : Nat} {L : List (Int × V)} (k : Int) (v : V) (hg : g f s = some (Qg7 L)) :
 updateV Tryz.prog g 271 (.map f s) (.int .i64 k) (.agg [.int .i64 k, v]) = some (.val .bad (some (f, s, Qg7 (B0 L k v)))) := by
 have hk : Yx (.int .i64) (.int .i64 k) = true := rfl
 unfold Qg7 at hg
 simp only [updateV, Tryz.underlying271, Tryz.underlying3, hk, if_true, hg]
 rcases Q4p k v L 0 with ⟨j, x, h1, h2, h3⟩ | ⟨h1, h2, h3⟩
 . simp only [h1, Zi4]
   unfold Qg7
   rw [h3, <- h2]; rfl
 . simp only [h1]
   unfold Qg7
   rw [h3, <- h2, Zlj]; rfl
def Kv (a : Nat -> Int) (dv : Nat -> V) : Nat -> List (Int × V)
 | 0 => []
 | i + 1 => B0 (Kv a dv i) (a i) (dv i)
theorem all_fz (i : Int) : Fz Tryz.prog Qz 178 [.int .i64 i] fun x => x = .bool true := by
 refine Js Tryz.func178 rfl ?_
 simp only [Qn, Qg, Qf, Ql, Qa, Qc, nov, gd, rho, Qd, wr, Nat.reduceAdd, Nat.reduceSub, if_true, if_false, reduceIte, reduceCtorEq, Qi, Int.reduceBEq, Int.reduceBNe, Int.reduceLT, Int.reduceLE, ↓Qh, Tryz.ntmps178]
 exact W.done (Zv.ret rfl rfl rfl)
def laF (bv wv : V) (L : List (Int × V)) : AM.Frame := [(2, .cells [bv, wv]), (8, Qg7 L)]
def laF' (bv wv : V) (y : List V) (L : List (Int × V)) : AM.Frame := [(2, .cells [bv, wv]), (7, .cells y), (8, Qg7 L)]
theorem Qz6 {cs : List V} {n i : Nat} {a : Int} {x : V} (h : i < n) (hl : cs.length = n * 2) (e1 : cs[2 * i]? = some (.int .i64 a)) (e2 : cs[2 * i + 1]? = some x) :
 Q2 Tryz.prog 242 cs ((i : Int).toNat * 2) = some (.agg [.int .i64 a, x]) := by
 have e : (i : Int).toNat * 2 = 2 * i := by omega
 rw [e, Q4t, if_pos (by omega)]
 obtain ⟨l1, g1⟩ := Zj3.1 e1
 obtain ⟨l2, g2⟩ := Zj3.1 e2
 rw [Zlh l1, Zkw, Zlh l2, Zkw, List.take_zero, g1, g2]
theorem Qfy : ∀ (L : List (Int × V)) (k : Int) (v : V) (x : Int × V), x ∈ B0 L k v -> x = (k, v) \/ x ∈ L
 | [], k, v, x, h => .inl (by simpa [B0] using h)
 | (k', v') :: r, k, v, x, h => by
   simp only [B0] at h
   split at h
   . rcases Zjf.1 h with rfl | h
     . exact .inl rfl
     . exact .inr (Zjh _ h)
   . rcases Zjf.1 h with rfl | h
     . exact .inr (Zjg)
     . rcases Qfy r k v x h with e | e
       . exact .inl e
       . exact .inr (Zjh _ e)
theorem Qp6 (a : Nat -> Int) (dv : Nat -> V) : ∀ (i : Nat) (x : Int × V), x ∈ Kv a dv i -> ∃ j, j < i /\ x.2 = dv j
 | 0, x, h => by cases h
 | i + 1, x, h => by
   rcases Qfy _ _ _ _ h with rfl | h
   . exact ⟨i, by omega, rfl⟩
   . obtain ⟨j, hj, e⟩ := Qp6 a dv i x h
     exact ⟨j, by omega, e⟩
theorem Qpk (p : Nat -> Nat -> Bool) (L : List (Int × V)) (h : ∀ x ∈ L, x.2.refs p = false) : (Qg7 L).refs p = false := by
 show Qfu p (L.map ent) = false
 induction L with
 | nil => rfl
 | cons x L ih =>
   have h1 := h x (by simp)
   have h2 := ih (fun y hy => h y (by simp [hy]))
   simp only [Zje, Qfu, ent, V.refs, Qx, h1, h2]; rfl
theorem orc {p : Nat -> Nat -> Bool} {xs : List V} : (O.cells xs).refs p = Qx p xs := rfl
theorem Q40 (K : Heap) (hw : WF K) (bv wv : V) (hbs : bv.scalar = true) (hbr : bv.refs (fun f _ => Nat.ble K.length f) = false) (cs : List V) (n : Nat) (hv : Zo 2 wv cs n) (hn : n <= 4096) (a : Nat -> Int) (dv : Nat -> V)
 (hwait : ∀ j, j < n -> cs[2 * j]? = some (.int .i64 (a j)) /\ cs[2 * j + 1]? = some (dv j)) (hdv : ∀ j, j < n -> ∃ c fl, dv j = .iS c 256 fl) (sv : V) (hso : sv = .func (.func 178) [] [] \/ n = 0) (hsr : ∀ p, sv.refs p = false) :
 CW Tryz.prog Qz 212 [.agg [bv, wv], sv] K fun r K' => r = .ret (.map K.length 8) /\ K' = K ++ [laF bv wv (Kv a dv n)] := by
 refine Xm Tryz.func212 rfl ?_
 have lw := hv.len Tryz.underlying23
 have wsc : wv.scalar = true := Qis hv
 simp only [Qn, Qg, Qf, Ql, Qa, Qc, nov, gd, rho, Qd, wr, Nat.reduceAdd, Nat.reduceSub, if_true, if_false, reduceIte, reduceCtorEq, Qi, Int.reduceBEq, Int.reduceBNe, Int.reduceLT, Int.reduceLE, ↓Qh, Tryz.ntmps212, ta, new, Ql2, Qu, Qs, Nat.reduceLT, Nat.reduceEqDiff, splice, zerosN, Qo, Qr, Qk, V.pure, Nat.reduceMul, Nat.reduceLeDiff, Qq, hbs, wsc, lw, Tryz.underlying271]
 refine W.ul ?_
 refine W.loop (fun (i : Nat) t H => ∃ F : AM.Frame, Bl [1, 5, 10, 11, 12] t 0 = Qsl sv (.map K.length 8) wv (.int .i64 n) (.int .i64 i) /\ i <= n /\ H = K ++ [F] /\ (F = laF bv wv (Kv a dv i) \/ ∃ y, F = laF' bv wv y (Kv a dv i)))
  (fun i => n - i) ?_ 0 ⟨_, rfl, by omega, rfl, .inl rfl⟩ rfl
 rintro i t H ⟨F, ht, hi, rfl, hF⟩
 have hd : (K ++ [F]).modify K.length (J7 fun s => [7].contains s) = K ++ [laF bv wv (Kv a dv i)] := by
  have := Qby (J7 fun s => [7].contains s) K [F] 0
  refine this.trans ?_
  rcases hF with rfl | ⟨y, rfl⟩ <;> rfl
 have bvr : bv.refs (fun f s => f == K.length && [7].contains s) = false := B9 (fun f s h => by simp at h; simp; omega) bv hbr
 have wvr : wv.refs (fun f s => f == K.length && [7].contains s) = false := hv.noRefs _
 have mr : ∀ p : Nat -> Nat -> Bool, (Qg7 (Kv a dv i)).refs p = false := fun p => Qpk p _ (fun x hx => by
  obtain ⟨j, hj, e⟩ := Qp6 a dv i x hx
  obtain ⟨c, fl, e2⟩ := hdv j (by omega)
  rw [e, e2]; rfl)
 refine ⟨_, _, Ye (kt := [1, 5, 10, 11, 12]) (ds := [7]) rfl ?_ ?_, ?_⟩
 . rw [ht]
   simp only [Qsl, Qx, V.refs, wvr, hsr]; simp
 . rw [hd, Xt, Qe0 hw (fun f s h => by simp at h; omega)]
   simp only [laF, Zi, Zn, orc, Qx, bvr, wvr, mr]; rfl
 rw [ht, hd]
 simp only [Qsl]
 by_cases h : i < n
 . have c1 : decide ((i : Int) < n) = true := Zlq (by omega)
   have w1 := Bn (i := i) (by omega)
   have hsv := hso.resolve_right (by omega)
   subst hsv
   obtain ⟨e1, e2⟩ := hwait i h
   have at1 := hv.at (k := .i64) Tryz.underlying23 Qma (by decide) (i := (i : Int)) (by omega) (by omega)
   have ldw := Qz6 h hv.1 e1 e2
   obtain ⟨m, rfl, hm⟩ := (all_fz (i : Int)).op (by rfl) rfl
   have hm' : ∀ s H, _ := fun s H => hm 212 K.length s H rfl
   have dsc : (dv i).scalar = true := by obtain ⟨c, fl, e⟩ := hdv i h; rw [e]; rfl
   have up := upd_L (g := Qb (K ++ [[(2, .cells [bv, wv]), (7, .cells [.int .i64 (a i), dv i]), (8, Qg7 (Kv a dv i))]])) (f := K.length) (s := 8) (L := Kv a dv i) (a i) (dv i) (by rw [Jp]; rfl)
   have eL : B0 (Kv a dv i) (a i) (dv i) = Kv a dv (i + 1) := rfl
   rw [eL] at up
   simp only [laF]
   generalize hO : Qg7 (Kv a dv i) = O1 at up ⊢
   generalize hO2 : Qg7 (Kv a dv (i + 1)) = O2 at up
   simp only [Qn, Qg, Qf, Ql, Qa, Qc, nov, gd, rho, Qd, wr, Nat.reduceAdd, Nat.reduceSub, if_true, if_false, reduceIte, reduceCtorEq, Qi, Int.reduceBEq, Int.reduceBNe, Int.reduceLT, Int.reduceLE, ↓Qh, c1, at1, ldw, ta, new, Ql2, Qu, Qs, Nat.reduceLT, Nat.reduceEqDiff, splice, zerosN, Qo, Qr, Qk, V.pure, Nat.reduceMul, Nat.reduceLeDiff, Qq, w1, hm', dsc, up]
   exact W.done ⟨i + 1, ⟨_, rfl, by omega, rfl, .inr ⟨_, by rw [<- hO2]; rfl⟩⟩, by omega⟩
 . have c1 : decide ((i : Int) < n) = false := Zlr (by omega)
   have hi2 : i = n := by omega
   subst hi2
   simp only [Qn, Qg, Qf, Ql, Qa, Qc, nov, gd, rho, Qd, wr, Nat.reduceAdd, Nat.reduceSub, if_true, if_false, reduceIte, reduceCtorEq, Qi, Int.reduceBEq, Int.reduceBNe, Int.reduceLT, Int.reduceLE, ↓Qh, c1]
   refine W.done ?_
   simp only [Qn, Qg, Qf, Ql, Qa, Qc, nov, gd, rho, Qd, wr, Nat.reduceAdd, Nat.reduceSub, if_true, if_false, reduceIte, reduceCtorEq, Qi, Int.reduceBEq, Int.reduceBNe, Int.reduceLT, Int.reduceLE, ↓Qh]
   refine W.done (End.ret (v := .map K.length 8) rfl ?_)
   rw [Qae (by simp [V.refs])]
   exact ⟨rfl, rfl⟩
end
section
set_option maxRecDepth 100000
open Go.AM
attribute [local irreducible] U W
theorem Qx4 (rv : List V) (fl : Bool) (hl : rv.length = 256) (hsc : rv.all V.scalar = true) :
 Q5 Tryz.prog Qz (some 96) [.iS rv 256 fl] [] = some (.ret (.mS 0 7 0 256 none 1), [[(5, .cells []), (7, .cells rv)]]) := by
 have key : CW Tryz.prog Qz 96 [.iS rv 256 fl] [] fun r K' => r = .ret (.mS 0 7 0 256 none 1) /\ K' = [[(5, .cells []), (7, .cells rv)]] := by
  refine Xm Tryz.func96 rfl ?_
  have nn := Qf3 (P := Tryz.prog) (t := 22) Tryz.underlying22 (x := .tmp 3) (y := .const (.slice none 0 0)) (cs := rv) (n := 256) (f := fl)
  have mt5 : Qz.mt 96 5 = true := rfl
  have mt7 : Qz.mt 96 7 = true := rfl
  have sc : ∀ g, Qy g 1 (.iS rv 256 fl) = some (rv, 256) := fun g => by simp [Qy, hl]
  have ap : Zl Tryz.prog (Qz.mt 96) 0 (Qb [[(5, O.cells [])]]) (some 7) 22 22 (.mS 0 5 0 0 (some 0) 1) (.iS rv 256 fl) = some (.val (.mS 0 7 0 256 none 1) (some (0, 7, .cells rv))) := by
   have g5 : Qb [[(5, O.cells [])]] 0 5 = some (.cells []) := rfl
   have n7 : Qb [[(5, O.cells [])]] 0 7 = none := rfl
   simp only [Zl, Tryz.underlying22, Qi1, by27, zc26, Y9, sc, appendTo, g5]
   simp [grown, mt7, new, n7, hsc, Yq]
  simp only [Qn, Qg, Qf, Ql, Qa, Qc, nov, gd, rho, Qd, wr, Nat.reduceAdd, Nat.reduceSub, if_true, if_false, reduceIte, reduceCtorEq, Tryz.ntmps96, nn, mt5, Yg, ap, Tryz.underlying22, Qi1, zc26, new, Qb, hset, Qu, Qs, Qp, Nat.reduceLT, Nat.reduceEqDiff, splice, zerosN, Qo, Qr, Qk, V.pure, Nat.reduceMul, Nat.reduceLeDiff, Qq]
  refine W.done (End.ret (v := .mS 0 7 0 256 none 1) rfl ?_)
  have := Qae (b := 0) (H := [[(5, O.cells []), (7, .cells rv)]]) (v := .mS 0 7 0 256 none 1) (by simp [V.refs])
  exact ⟨rfl, this⟩
 obtain ⟨r, K', h, rfl, rfl⟩ := key
 exact h
theorem Q1m (rv : List V) (fl : Bool) (hl : rv.length = 256) (hsc : rv.all V.scalar = true) (hp : Qk rv = true) (fn fr d : Nat) (H : Heap) (hn : Qb H fr d = none) :
 callOp Qz (Q5 Tryz.prog Qz) fn fr (some d) 96 [.iS rv 256 fl] H = some (.ret (.mS fr d 0 256 none 1), hset H fr d (.cells rv)) := by
 have hc := Qx4 rv fl hl hsc
 have a1 : Qz.prim 96 = none := rfl
 have a2 : Qz.pure fn 96 = false := rfl
 have a3 : Qz.lift fn 96 = true := rfl
 have fz : Zc (frz (fun _ _ => none) depth) [.iS rv 256 fl] = some [.iS rv 256 fl] := rfl
 have hg : Qb [[(5, O.cells []), (7, .cells rv)]] 0 7 = some (.cells rv) := rfl
 simp only [callOp, a1, a2, a3, Ziw, if_false, if_true, fz, hc, Qef, hn, hg, hp, Zit, wr]
def lfF (wv : V) (c : List V) (N : Nat) (seen : List Nat) : AM.Frame := [(2, .cells [.mS 0 9 0 256 none 1, wv]), (4, .cells [.nS, .nS]), (9, .cells c), (16, .iter (some (1, 8)) N seen N)]
def lfF' (wv : V) (c : List V) (N : Nat) (seen : List Nat) (y : List V) : AM.Frame := [(2, .cells [.mS 0 9 0 256 none 1, wv]), (4, .cells [.nS, .nS]), (6, .cells y), (9, .cells c), (16, .iter (some (1, 8)) N seen N)]
theorem Qhj (a : Nat -> Int) (dv : Nat -> V) : ∀ (i : Nat) (x : Int × V), x ∈ Kv a dv i -> ∃ j, j < i /\ x = (a j, dv j)
 | 0, x, h => by cases h
 | i + 1, x, h => by
   rcases Qfy _ _ _ _ h with rfl | h
   . exact ⟨i, by omega, rfl⟩
   . obtain ⟨j, hj, e⟩ := Qhj a dv i x h
     exact ⟨j, by omega, e⟩
theorem Qqk : ∀ (L : List (Int × V)) (k : Int) (v : V) (x : Int), x ∈ (B0 L k v).map Prod.fst -> x = k \/ x ∈ L.map Prod.fst
 | [], k, v, x, h => .inl (by simpa [B0] using h)
 | (k', v') :: r, k, v, x, h => by
   simp only [B0] at h
   split at h
   . rename_i e; subst e; exact .inr h
   . simp only [Zje, Zjf] at h ⊢
     rcases h with h | h
     . exact .inr (.inl h)
     . rcases Qqk r k v x h with h | h
       . exact .inl h
       . exact .inr (.inr h)
theorem Qg9 : ∀ (L : List (Int × V)) (k : Int) (v : V), (L.map Prod.fst).Nodup -> ((B0 L k v).map Prod.fst).Nodup
 | [], k, v, _ => by simp [B0]
 | (k', v') :: r, k, v, h => by
   simp only [B0]
   split
   . rename_i e; subst e; exact h
   . rename_i e
     simp only [Zje, Zjm] at h ⊢
     refine ⟨fun hm => ?_, Qg9 r k v h.2⟩
     rcases Qqk r k v k' hm with h1 | h1
     . exact e h1.symm
     . exact h.1 h1
theorem Qex (a : Nat -> Int) (dv : Nat -> V) : ∀ i, ((Kv a dv i).map Prod.fst).Nodup
 | 0 => by simp [Kv]
 | i + 1 => Qg9 _ _ _ (Qex a dv i)
theorem Qmn {L : List (Int × V)} (h : (L.map Prod.fst).Nodup) (b c : Nat) (k : Int) (v w : V) (h1 : L[b]? = some (k, v)) (h2 : L[c]? = some (k, w)) : b = c := by
 obtain ⟨l1, e1⟩ := Zj3.1 h1
 obtain ⟨l2, e2⟩ := Zj3.1 h2
 have q1 : (L.map Prod.fst)[b]? = some k := by rw [Zlb, h1]; rfl
 have q2 : (L.map Prod.fst)[c]? = some k := by rw [Zlb, h2]; rfl
 exact (List.getElem?_inj (by simpa using l1) h).1 (q1.trans q2.symm)
theorem Qqe (p : Nat -> Nat -> Bool) (v : V) (hv : v.refs p = false) : ∀ (l : List V) (i : Nat), Qx p l = false -> Qx p (l.set i v) = false
 | [], i, _ => rfl
 | x :: l, 0, h => by simp only [Qx, Zk5] at h; simp only [List.set_cons_zero, Qx, hv, h.2, Bool.or_self]
 | x :: l, i + 1, h => by simp only [Qx, Zk5] at h; simp only [List.set_cons_succ, Qx, h.1, Qqe p v hv l i h.2, Bool.or_self]
theorem Qfb (p : Nat -> Nat -> Bool) (L : List (Int × V)) (hL : ∀ (b : Nat) (k : Int) (v : V), L[b]? = some (k, v) -> v.refs p = false) : ∀ (seen : List Nat) (rv : List V), Qx p rv = false -> Qx p (Z7 L seen rv) = false
 | [], rv, h => h
 | b :: seen, rv, h => by
   show Qx p (Z7 L seen (Qbk L rv b)) = false
   refine Qfb p L hL seen _ ?_
   unfold Qbk
   split
   . rename_i k v hk
     exact Qqe p v (hL b k v hk) rv _ h
   . exact h
theorem Qhq {rv : List V} {r : Nat -> List V} (hl : rv.length = 256) (hr : ∀ i, i < 256 -> ∃ f, rv[i]? = some (.iS (r i) 256 f)) (p : Nat -> Nat -> Bool) : Qx p rv = false := by
 have : ∀ l : List V, (∀ x ∈ l, x.refs p = false) -> Qx p l = false := by
  intro l
  induction l with
  | nil => intro _; rfl
  | cons x l ih => intro h; simp only [Qx, h x (by simp), ih (fun y hy => h y (by simp [hy])), Bool.or_self]
 refine this rv fun x hx => ?_
 obtain ⟨i, hi⟩ := Zj4.1 hx
 have : i < 256 := by rw [<- hl]; exact (Zj3.1 hi).1
 obtain ⟨f, hf⟩ := hr i this
 rw [hi] at hf; cases hf; rfl
theorem Q7c (rv : List V) (fl : Bool) (r : Nat -> List V) (hl : rv.length = 256) (hr : ∀ i, i < 256 -> ∃ f, rv[i]? = some (.iS (r i) 256 f)) (hrow : ∀ i, i < 256 -> J3 (r i)) (wv : V) (cs : List V) (n : Nat) (hv : Zo 2 wv cs n) (hn : n <= 4096) (a : Nat -> Int) (dv : Nat -> V)
 (hwait : ∀ j, j < n -> cs[2 * j]? = some (.int .i64 (a j)) /\ cs[2 * j + 1]? = some (dv j)) (ha : ∀ j, j < n -> 0 <= a j /\ a j < 256) (hdv : ∀ j, j < n -> ∃ c fl, dv j = .iS c 256 fl /\ J3 c)
 (r' : Nat -> List V) (hr' : ∀ i, i < 256 -> ∃ f, (Z7 (Kv a dv n) (List.range (Kv a dv n).length) rv)[i]? = some (.iS (r' i) 256 f)) (hrow' : ∀ i, i < 256 -> J3 (r' i)) (sv : V) (hso : sv = .func (.func 178) [] [] \/ n = 0) (hsr : ∀ p, sv.refs p = false) :
 Fz Tryz.prog Qz 177 [.agg [.iS rv 256 fl, wv], sv] fun x => x = encD r' (fun _ => 0) (fun _ => []) 0 := by
 refine Js Tryz.func177 rfl ?_
 have wsc : wv.scalar = true := Qis hv
 have hsc : rv.all V.scalar = true := by
  rw [Zjk]; intro x hx
  obtain ⟨i, hi⟩ := Zj4.1 hx
  have : i < 256 := by rw [<- hl]; exact (Zj3.1 hi).1
  obtain ⟨f, hf⟩ := hr i this
  rw [hi] at hf; cases hf; rfl
 have hpu : Qk rv = true := by
  have : ∀ l : List V, (∀ x ∈ l, x.pure = true) -> Qk l = true := by
   intro l
   induction l with
   | nil => intro _; rfl
   | cons x l ih => intro h; simp only [Qk, h x (by simp), ih (fun y hy => h y (by simp [hy])), Bool.and_self]
  refine this rv fun x hx => ?_
  obtain ⟨i, hi⟩ := Zj4.1 hx
  have : i < 256 := by rw [<- hl]; exact (Zj3.1 hi).1
  obtain ⟨f, hf⟩ := hr i this
  rw [hi] at hf; cases hf; rfl
 have cl := Q1m rv fl hl hsc hpu 177 0 9 [[(2, .cells [.iS rv 256 fl, wv]), (4, .cells [.nS, .nS])]] rfl
 have wcl := hv.cells1
 have hK1 : WF [[(2, O.cells [.mS 0 9 0 256 none 1, wv]), (4, .cells [.nS, .nS]), (9, .cells rv)]] := by
  have q : (fun f _ => Nat.ble 1 f) 0 9 = false := rfl
  have rr : Qx (fun f _ => Nat.ble 1 f) rv = false := Qhq hl hr _
  simp only [WF, Zi, Zn, orc, Qx, V.refs, hv.noRefs, rr, Zja, Zki]
  rfl
 obtain ⟨rr, KK, hlast, rfl, rfl⟩ := Q40 [[(2, .cells [.mS 0 9 0 256 none 1, wv]), (4, .cells [.nS, .nS]), (9, .cells rv)]] hK1 (.mS 0 9 0 256 none 1) wv rfl rfl cs n hv hn a dv hwait (fun j hj => by obtain ⟨c, f, e, _⟩ := hdv j hj; exact ⟨c, f, e⟩) sv hso hsr
 have hlast' : callOp Qz (Q5 Tryz.prog Qz) 177 0 (some 15) 212 [.agg [.mS 0 9 0 256 none 1, wv], sv] [[(2, .cells [.mS 0 9 0 256 none 1, wv]), (4, .cells [.nS, .nS]), (9, .cells rv)]] =
  some (.ret (.map 1 8), [[(2, .cells [.mS 0 9 0 256 none 1, wv]), (4, .cells [.nS, .nS]), (9, .cells rv)], laF (.mS 0 9 0 256 none 1) wv (Kv a dv n)]) := Ko rfl rfl rfl hlast
 generalize hL : Kv a dv n = L at hlast' hr' 
 have hLk : ∀ (b : Nat) (k : Int) (v : V), L[b]? = some (k, v) -> (0 <= k /\ k < 256) /\ ∃ c fl, v = .iS c 256 fl /\ J3 c := by
  intro b k v h
  rw [<- hL] at h
  obtain ⟨j, hj, e⟩ := Qhj a dv n (k, v) (List.mem_of_getElem? h)
  cases e
  exact ⟨ha j hj, hdv j hj⟩
 have hFr : ∀ p : Nat -> Nat -> Bool, p 0 9 = false -> Zn p (laF (.mS 0 9 0 256 none 1) wv L) = true := fun p hp => by
  have mr := Qpk p L (fun x hx => by
   obtain ⟨b, hb⟩ := Zj4.1 hx
   obtain ⟨_, c, f, e, _⟩ := hLk b x.1 x.2 hb
   rw [e]; rfl)
  simp only [laF, Zn, orc, Qx, V.refs, hv.noRefs, mr, hp]
  rfl
 generalize hFL : laF (.mS 0 9 0 256 none 1) wv L = FL at hlast' hFr
 simp only [Qn, Qg, Qf, Ql, Qa, Qc, nov, gd, rho, Qd, wr, Nat.reduceAdd, Nat.reduceSub, if_true, if_false, reduceIte, reduceCtorEq, Qi, Int.reduceBEq, Int.reduceBNe, Int.reduceLT, Int.reduceLE, ↓Qh, Tryz.ntmps177, ta, new, Qb, hset, Qu, Qs, Qp, Nat.reduceLT, Nat.reduceEqDiff, splice, zerosN, Qo, Qr, Qk, V.pure, Nat.reduceMul, Nat.reduceLeDiff, Qq, wsc, wcl, cl, hlast']
 refine W.opsT (by kernel_rfl) ?_
 have g8 : ∀ F : AM.Frame, Qb [F, FL] 1 8 = some (Qg7 L) := fun F => by rw [<- hFL]; rfl
 have rg : rangeV Tryz.prog (Qb [[(2, O.cells [.mS 0 9 0 256 none 1, wv]), (4, .cells [.nS, .nS]), (9, .cells rv)], FL]) 0 (some 16) 271 (.map 1 8) = some (.val (.ptr 0 16 0) (some (0, 16, .iter (some (1, 8)) L.length [] L.length))) := by
  have n16 : Qb [[(2, O.cells [.mS 0 9 0 256 none 1, wv]), (4, .cells [.nS, .nS]), (9, .cells rv)], FL] 0 16 = none := rfl
  simp only [rangeV, Tryz.underlying271, g8, Qg7, new, n16]
 have lr : ∀ b ∈ List.range L.length, b < L.length := fun b hb => Zko.1 hb
 simp only [Qn, Qg, Qf, Ql, Qa, Qc, nov, gd, rho, Qd, wr, Nat.reduceAdd, Nat.reduceSub, if_true, if_false, reduceIte, reduceCtorEq, Qi, Int.reduceBEq, Int.reduceBNe, Int.reduceLT, Int.reduceLE, ↓Qh, Tryz.ntmps177, ta, new, Qb, hset, Qu, Qs, Qp, Nat.reduceLT, Nat.reduceEqDiff, splice, zerosN, Qo, Qr, Qk, V.pure, Nat.reduceMul, Nat.reduceLeDiff, Qq, wsc, wcl, cl, hlast', rg]
 refine W.ul ?_
 have hLd : ∀ (b c : Nat) (k : Int) (v w : V), L[b]? = some (k, v) -> L[c]? = some (k, w) -> b = c := by
  rw [<- hL]; exact Qmn (Qex a dv n)
 refine W.range (d := some 17) (k := _) rfl rfl (.exit 0, ((Qf5 (.ptr 0 2 0) (.ptr 0 4 0) (.ptr 0 16 0)).set 17 (.tuple [.bool false])).set 18 (.bool false), [[(2, O.cells [.mS 0 9 0 256 none 1, wv]), (4, .cells [.nS, .nS]), (9, .cells (Z7 L (List.range L.length) rv)), (16, .dead)], FL])
  (fun (seen : List Nat) t H => Bl [2, 4, 16] t 0 = Qf5 (.ptr 0 2 0) (.ptr 0 4 0) (.ptr 0 16 0) /\ ∃ F, H = [F, FL] /\ (F = lfF wv (Z7 L seen rv) L.length seen \/ ∃ y, F = lfF' wv (Z7 L seen rv) L.length seen y))
  (fun seen => (Yv seen (L.map ent) (List.range L.length)).length) ?_ [] ⟨rfl, _, rfl, .inl rfl⟩ ?_
 . rintro seen t H ⟨ht, F, rfl, hF⟩
   have hd : [F, FL].modify 0 (J7 fun s => [6].contains s) = [lfF wv (Z7 L seen rv) L.length seen, FL] := by
    rcases hF with rfl | ⟨y, rfl⟩ <;> rfl
   obtain ⟨cs, hcs, hall⟩ := Q1v (g := Qb [lfF wv (Z7 L seen rv) L.length seen, FL]) (f := 0) (s := 16) rfl (g8 _) lr (Zix _)
   refine ⟨_, _, cs, Ye (kt := [2, 4, 16]) (ds := [6]) rfl ?_ ?_, ?_, fun d hd2 => ?_⟩
   . rw [ht]; simp [Qf5, Qx, V.refs]
   . rw [show ([F, FL].modify 0 (J7 fun s => [6].contains s)) = _ from hd]
     have yr : Qx (fun f s => f == 0 && [6].contains s) (Z7 L seen rv) = false := by
      refine Qfb _ L (fun b k v h => ?_) seen rv (Qhq hl hr _)
      obtain ⟨_, c, f, e, _⟩ := hLk b k v h
      rw [e]; rfl
     simp only [lfF, Zi, hFr (fun f s => f == 0 && [6].contains s) rfl, Zn, orc, Qx, V.refs, hv.noRefs, yr]
     rfl
   . rw [ht]; rw [show ([F, FL].modify 0 (J7 fun s => [6].contains s)) = _ from hd]; exact hcs
   . rw [ht, hd]
     rcases hall d hd2 with ⟨hnil, rfl⟩ | ⟨⟨e, b⟩, he, rfl⟩
     . simp only [Qf5, lfF]
       have eA : Z7 L seen rv = Z7 L (List.range L.length) rv := by
        refine Qxc L hLd (fun b k v h => (hLk b k v h).1.1) seen (fun b hb => ?_) rv (fun b k v h => by have := (hLk b k v h).1; omega)
        rw [Zjc] at hnil
        have := Qpq seen (L.map ent) 0 (by rw [List.length_map]; exact hnil) b (by omega) (by rw [List.length_map]; omega)
        exact this
       rw [eA]
       simp only [Qn, Qg, Qf, Ql, Qa, Qc, nov, gd, rho, Qd, wr, Nat.reduceAdd, Nat.reduceSub, if_true, if_false, reduceIte, reduceCtorEq, Qi, Int.reduceBEq, Int.reduceBNe, Int.reduceLT, Int.reduceLE, ↓Qh, new, Qb, hset, Qu, Qs, Qp, Nat.reduceLT, Nat.reduceEqDiff, splice, zerosN, Qo, Qr, Qk, V.pure, Nat.reduceMul, Nat.reduceLeDiff, Qq]
       exact W.done rfl
     . simp only [Qf5, lfF]
       have he2 := he
       rw [Zjc] at he2
       obtain ⟨_, hb1, hb2⟩ := Qqh seen (L.map ent) 0 (e, b) (by rw [List.length_map]; exact he2)
       simp only [Nat.sub_zero, Zlb] at hb1
       obtain ⟨⟨k, v⟩, hb3, rfl⟩ := Zj8.1 hb1
       obtain ⟨⟨k0, k1⟩, c, cf, rfl, hc⟩ := hLk b k v hb3
       have less := Qg8 seen ((ent (k, .iS c 256 cf)), b) _ _ he
       simp only [ent]
       have hA : (Z7 L seen rv).length = 256 := by rw [Qaj]; exact hl
       have eS := Qt1 L seen b rv k _ hb3
       have eB : Qbe b (L.map ent) (List.range L.length) = some (.int .i64 k, .agg [.int .i64 k, .iS c 256 cf]) := by
        have := Qly b (L.map ent) 0 (by omega)
        rw [List.length_map, <- Zjc, Nat.sub_zero, Zlb, hb3] at this
        exact this
       have gl : (seen ++ [b]).getLast? = some b := by simp
       generalize Z7 L seen rv = y at hA eS ⊢
       have en : Qaf (Qb [[(2, O.cells [.mS 0 9 0 256 none 1, wv]), (4, .cells [.nS, .nS]), (9, .cells y), (16, .iter (some (1, 8)) L.length (seen ++ [b]) L.length)], FL]) (.ptr 0 16 0) = some (.tuple [.int .i64 k, .agg [.int .i64 k, .iS c 256 cf]]) := by
        have n16 : Qb [[(2, O.cells [.mS 0 9 0 256 none 1, wv]), (4, .cells [.nS, .nS]), (9, .cells y), (16, .iter (some (1, 8)) L.length (seen ++ [b]) L.length)], FL] 0 16 = some (.iter (some (1, 8)) L.length (seen ++ [b]) L.length) := rfl
        simp only [Qaf, n16, g8, Qg7, gl, eB, if_true, Zit]
       generalize eS2 : seen ++ [b] = seen2 at *
       have at1 := at_m (P := Tryz.prog) (f := 0) (s := 9) (o := 0) (cap := none) (k := .i64) Tryz.underlying22 Qi1 (len := 256) k0 (i := k) (by omega)
       have kl : k.toNat + 1 <= y.length := by omega
       have es : y.take k.toNat ++ [.iS c 256 cf] ++ y.drop (k.toNat + 1) = Z7 L seen2 rv := by
        rw [eS, List.set_eq_take_append_cons_drop, if_pos (by omega), Zlf]; rfl
       simp only [Qn, Qg, Qf, Ql, Qa, Qc, nov, gd, rho, Qd, wr, Nat.reduceAdd, Nat.reduceSub, if_true, if_false, reduceIte, reduceCtorEq, Qi, Int.reduceBEq, Int.reduceBNe, Int.reduceLT, Int.reduceLE, ↓Qh, Tryz.ntmps177, ta, new, Qb, hset, Qu, Qs, Qp, Nat.reduceLT, Nat.reduceEqDiff, splice, zerosN, Qo, Qr, Qk, V.pure, Nat.reduceMul, Nat.reduceLeDiff, Qq, en, at1, if_pos kl, es]
       exact W.done ⟨seen2, ⟨rfl, _, rfl, .inr ⟨_, rfl⟩⟩, less⟩
 . have yr : ∀ p : Nat -> Nat -> Bool, Qx p (Z7 L (List.range L.length) rv) = false := fun p => by
    refine Qfb _ L (fun b k v h => ?_) _ rv (Qhq hl hr _)
    obtain ⟨_, c, f, e, _⟩ := hLk b k v h
    rw [e]; rfl
   have yl : (Z7 L (List.range L.length) rv).length = 256 := by rw [Qaj]; exact hl
   generalize Z7 L (List.range L.length) rv = y at hr' yr yl ⊢
   have hK2 : WF [[(2, O.cells [.mS 0 9 0 256 none 1, .nS]), (4, .cells [.nS, .nS]), (9, .cells y), (16, .dead)], FL] := by
    have q := hFr (fun f _ => Nat.ble (0 + 1 + 1) f) rfl
    simp only [WF, Zi, q, Zn, orc, Qx, V.refs, yr, Zja, Zki]
    rfl
   have hb : Qnq [[(2, O.cells [.mS 0 9 0 256 none 1, .nS]), (4, .cells [.nS, .nS]), (9, .cells y), (16, .dead)], FL] (.mS 0 9 0 256 none 1) r' := by
    refine ⟨fun g => ?_, ⟨fun i => .ptr 0 9 i, fun i => y.getD i .bad, fun i hi => ?_, fun i hi G => ?_, fun i hi => ?_⟩, hrow', rfl, rfl, rfl⟩
    . simp only [Y2, Tryz.underlying22]
      rfl
    . have := at_m (P := Tryz.prog) (f := 0) (s := 9) (o := 0) (cap := none) (k := .i64) Tryz.underlying22 Qi1 (len := 256) (i := (i : Int)) (by omega) (by omega)
      rw [this]
      have e : 0 + (i : Int).toNat * 1 = i := by omega
      rw [e]
    . obtain ⟨f, hf⟩ := hr' i hi
      show Q2 Tryz.prog 26 y i = _
      rw [rd26, hf]
      simp [List.getD, hf]
    . obtain ⟨f, hf⟩ := hr' i hi
      exact ⟨f, by simp [List.getD, hf]⟩
   obtain ⟨rr, KK, tw, rfl, rfl⟩ := Qym _ hK2 (.mS 0 9 0 256 none 1) .nS r' hb [] 0 Zo.nil (by omega) (fun _ => 0) (fun _ => []) (fun j hj => by omega) (fun j hj => by omega)
   have tw' := Ko (fn := 177) (fr := 0) (d := some 30) rfl rfl rfl tw
   simp only [Qf5, List.set_cons_succ, List.set_cons_zero]
   have zl : (zerosN [V.int .u8 0] 65536).length = 65536 := Qbd _ _
   simp only [Y4, if_true] at tw'
   generalize zerosN [V.int .u8 0] 65536 = Z at tw' zl
   have fz := fun HH hg => Ql5 2 HH r' Z (fun _ => 0) (fun _ => []) 0 hrow' zl hg
   simp only [Zja, Zki, Nat.reduceAdd, Y4, if_true] at tw' fz
   generalize hF3 : ([(20, .cells (Xl r' Z 256)), (33, .grow 256)] : AM.Frame) = F3 at tw'
   generalize Qh5 _ _ _ _ 0 = F2 at tw'
   simp only [Zkg, Zkj] at tw'
   have fz2 := fun F0 => fz [F0, FL, F2, F3] (by rw [<- hF3]; rfl)
   clear fz hF3
   generalize Yp 3 256 = R0 at tw' fz2
   simp only [Qn, Qg, Qf, Ql, Qa, Qc, nov, gd, rho, Qd, wr, Nat.reduceAdd, Nat.reduceSub, if_true, if_false, reduceIte, reduceCtorEq, Qi, Int.reduceBEq, Int.reduceBNe, Int.reduceLT, Int.reduceLE, ↓Qh, Tryz.ntmps177, ta, new, Qb, hset, Qu, Qs, Qp, Nat.reduceLT, Nat.reduceEqDiff, splice, zerosN, Qo, Qr, Qk, V.pure, Nat.reduceMul, Nat.reduceLeDiff, Qq, tw']
   refine W.done ?_
   exact Zv.ret (v := .agg [.gS 3 33 R0 256 1, .nS]) rfl (fz2 _) rfl
end
end Go.Proofs.YtafhcdagifopeaaGreatDoor
