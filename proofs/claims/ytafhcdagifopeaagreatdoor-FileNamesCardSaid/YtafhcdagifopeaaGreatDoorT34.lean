/- This file holds in one the texts DT, DU, DW, DP, DQ, DR, E1; each says at its head what it proves. -/
import Derived.Test.YtafhcdagifopeaaGreatDoorT20
import Derived.Test.YtafhcdagifopeaaGreatDoorT27
import Derived.Test.YtafhcdagifopeaaGreatDoorT28
import Derived.Test.YtafhcdagifopeaaGreatDoorT29
import Derived.Test.YtafhcdagifopeaaGreatDoorT30
import Derived.Test.YtafhcdagifopeaaGreatDoorT31
import Derived.Test.YtafhcdagifopeaaGreatDoorT32
import Derived.Test.YtafhcdagifopeaaGreatDoorT33
set_option linter.unusedSimpArgs false
set_option linter.unusedVariables false
namespace Go.Proofs.YtafhcdagifopeaaGreatDoor
section
set_option maxRecDepth 100000
open Go.AM Go.AM.BM
attribute [local irreducible] U W
theorem Qp9 {v : V} (h : Qyq v = true) : ∃ c f, v = .iS c 256 f /\ J3 c := by
 cases v with
 | iS c n f =>
   simp only [Qyq, Zjj] at h
   obtain ⟨h1, h2, h3⟩ := h
   cases Zld h1
   replace h2 := Zld h2
   refine ⟨c, f, rfl, h2, ?_⟩
   rw [<- h3]; congr 1
 | _ => cases h
theorem Qg3 {bv : V} {rv : List V} (h : Qin bv = some rv) : ∃ fl, bv = .iS rv 256 fl /\ rv.length = 256 /\ (∀ i, i < 256 -> ∃ f, rv[i]? = some (.iS (Qoa (rv.getD i .bad)) 256 f)) /\ ∀ i, i < 256 -> J3 (Qoa (rv.getD i .bad)) := by
 cases bv with
 | iS xs n f =>
   simp only [Qin] at h
   split at h
   case isFalse => cases h
   rename_i hc
   cases h
   simp only [Zjj, Zjk] at hc
   obtain ⟨⟨h1, h2⟩, h3⟩ := hc
   cases Zld h1
   replace h2 := Zld h2
   have key : ∀ i, i < 256 -> ∃ c g, rv[i]? = some (.iS c 256 g) /\ rv.getD i .bad = .iS c 256 g /\ J3 c := fun i hi => by
    have hl : i < rv.length := by omega
    obtain ⟨c, g, e, hr⟩ := Qp9 (h3 rv[i] (List.getElem_mem hl))
    have e1 : rv[i]? = some (.iS c 256 g) := by rw [Zis hl, e]
    exact ⟨c, g, e1, by simp [List.getD, e1], hr⟩
   refine ⟨f, rfl, h2, fun i hi => ?_, fun i hi => ?_⟩
   . obtain ⟨c, g, e1, e2, _⟩ := key i hi
     exact ⟨g, by rw [e1, e2]; rfl⟩
   . obtain ⟨c, g, _, e2, hr⟩ := key i hi
     rw [e2]; exact hr
 | _ => cases h
theorem Qlt : ∀ (cs : List V) (j : Nat), Qcg cs = true -> 2 * j + 1 < cs.length -> ∃ a c f, cs[2 * j]? = some (.int .i64 a) /\ 0 <= a /\ a < 256 /\ cs[2 * j + 1]? = some (.iS c 256 f) /\ J3 c
 | [], j, _, h => by simp at h
 | [x], j, _, h => by simp at h
 | x :: v :: r, j, h, hl => by
   unfold Qcg at h
   split at h
   . rename_i e; cases e
   . rename_i a v' r' e
     cases e
     simp only [Zjj, decide_eq_true_eq] at h
     obtain ⟨⟨⟨h1, h2⟩, h3⟩, h4⟩ := h
     cases j with
     | zero =>
       obtain ⟨c, f, rfl, hc⟩ := Qp9 h3
       exact ⟨a, c, f, rfl, h1, h2, rfl, hc⟩
     | succ j =>
       obtain ⟨b, c, f, q1, q2, q3, q4, q5⟩ := Qlt r j h4 (by simp only [Zja] at hl; omega)
       exact ⟨b, c, f, by rw [show 2 * (j + 1) = 2 * j + 1 + 1 by omega]; simpa using q1, q2, q3, by rw [show 2 * (j + 1) + 1 = 2 * j + 1 + 1 + 1 by omega]; simpa using q4, q5⟩
   . cases h
def waA (cs : List V) (j : Nat) : Int := match cs.getD (2 * j) .bad with
 | .int _ a => a
 | _ => 0
def waD (cs : List V) (j : Nat) : List V := Qoa (cs.getD (2 * j + 1) .bad)
theorem Qjg {wv : V} {cs : List V} {n : Nat} (h : Qhn wv = some (cs, n)) : Zo 2 wv cs n /\ n <= 4096 /\ (∀ j, j < n -> cs[2 * j]? = some (.int .i64 (waA cs j)) /\ ∃ fl, cs[2 * j + 1]? = some (.iS (waD cs j) 256 fl)) /\ (∀ j, j < n -> 0 <= waA cs j /\ waA cs j < 256) /\ ∀ j, j < n -> J3 (waD cs j) := by
 have key : ∀ cs n, Qcg cs = true -> cs.length = n * 2 -> (∀ j, j < n -> cs[2 * j]? = some (.int .i64 (waA cs j)) /\ ∃ fl, cs[2 * j + 1]? = some (.iS (waD cs j) 256 fl)) /\ (∀ j, j < n -> 0 <= waA cs j /\ waA cs j < 256) /\ ∀ j, j < n -> J3 (waD cs j) := fun cs n h hl => by
  have q : ∀ j, j < n -> ∃ f, cs[2 * j]? = some (.int .i64 (waA cs j)) /\ cs[2 * j + 1]? = some (.iS (waD cs j) 256 f) /\ (0 <= waA cs j /\ waA cs j < 256) /\ J3 (waD cs j) := fun j hj => by
   obtain ⟨a, c, f, q1, q2, q3, q4, q5⟩ := Qlt cs j h (by omega)
   have e1 : waA cs j = a := by simp [waA, List.getD, q1]
   have e2 : waD cs j = c := by simp [waD, List.getD, q4, Qoa]
   rw [e1, e2]
   exact ⟨f, q1, q4, ⟨q2, q3⟩, q5⟩
  exact ⟨fun j hj => by obtain ⟨f, q1, q2, _⟩ := q j hj; exact ⟨q1, f, q2⟩, fun j hj => by obtain ⟨f, _, _, q, _⟩ := q j hj; exact q, fun j hj => by obtain ⟨f, _, _, _, q⟩ := q j hj; exact q⟩
 cases wv with
 | nS =>
   cases h
   exact ⟨Zo.nil, by omega, fun j hj => by omega, fun j hj => by omega, fun j hj => by omega⟩
 | iS xs m f =>
   simp only [Qhn] at h
   split at h
   case isFalse => cases h
   rename_i hc
   cases h
   simp only [Zjj] at hc
   obtain ⟨⟨h1, h2⟩, h3⟩ := hc
   replace h1 := Zld h1
   replace h2 := Zkv h2
   exact ⟨Zo.mk h1, h2, key _ _ h3 h1⟩
 | _ => cases h
theorem Qgv (x v : V) : ∀ (l : List V) (i : Nat), l.length = 2 * i -> Qc1 (l ++ [x, v]) = Qc1 l ++ [x, BM.newRow false v]
 | [], _, _ => rfl
 | [y], i, h => by simp at h; omega
 | y :: z :: l, i, h => by
   show y :: BM.newRow false z :: Qc1 (l ++ [x, v]) = _
   rw [Qgv x v l (i - 1) (by simp only [Zja] at h; omega)]; rfl
theorem Qe8 (cs : List V) (n : Nat) (hl : cs.length = n * 2) (h : ∀ j, j < n -> cs[2 * j]? = some (.int .i64 (waA cs j)) /\ ∃ fl, cs[2 * j + 1]? = some (.iS (waD cs j) 256 fl)) : ∀ i, i <= n -> Qa3 (waA cs) (waD cs) i = Qc1 (cs.take (2 * i))
 | 0, _ => rfl
 | i + 1, hi => by
   obtain ⟨q1, f, q2⟩ := h i (by omega)
   obtain ⟨l1, g1⟩ := Zj3.1 q1
   obtain ⟨l2, g2⟩ := Zj3.1 q2
   have e : cs.take (2 * (i + 1)) = cs.take (2 * i) ++ [.int .i64 (waA cs i), .iS (waD cs i) 256 f] := by
    rw [show 2 * (i + 1) = 2 * i + 1 + 1 by omega, List.take_succ_eq_append_getElem l2, List.take_succ_eq_append_getElem l1, g1, g2, Zlf]; rfl
   rw [e, Qgv _ _ _ i (by rw [Zk8]; omega), <- Qe8 cs n hl h i (by omega), Qb8]; rfl
theorem Qm3 (rv cs : List V) (n : Nat) (hr : rv.length = 256) (hl : cs.length = n * 2) (h : ∀ j, j < n -> cs[2 * j]? = some (.int .i64 (waA cs j)) /\ ∃ fl, cs[2 * j + 1]? = some (.iS (waD cs j) 256 fl)) :
 encD (fun i => Qoa (rv.getD i .bad)) (waA cs) (waD cs) n = Qq0 rv cs n := by
 have e1 : ((List.range 256).map fun j => V.iS (Qoa (rv.getD j .bad)) 256 true) = rv.map (BM.newRow true) := by
  apply Zkb
  intro i
  by_cases hi : i < 256
  . rw [Zlb, Zlb, List.getElem?_range hi, Zis (by omega)]
    simp [BM.newRow, List.getD, Zis (show i < rv.length by omega)]
  . rw [Ziv (by simp; omega), Ziv (by simp; omega)]
 have e2 := Qe8 cs n hl h n (Zix n)
 rw [Zli (by omega)] at e2
 simp only [encD, Qq0, e1, e2]
theorem Q12 (ys : List V) (v : V) (h : Qyp ys = some v) : Fz Tryz.prog Qz 141 ys (· = v) := by
 unfold Qyp at h
 split at h
 case h_2 => cases h
 rename_i bv wv
 split at h
 case h_2 => cases h
 rename_i rv cs n hb hw
 cases h
 obtain ⟨fl, rfl, h1, h2, h3⟩ := Qg3 hb
 obtain ⟨w1, w2, w3, w4, w5⟩ := Qjg hw
 have := Q6p rv fl _ h1 h2 h3 wv cs n w1 w2 (waA cs) (waD cs) w3 w5
 rw [Qm3 rv cs n h1 w1.1 w3] at this
 exact this
theorem Q6a (ys : List V) (v : V) (h : kNew ys = some v) : Fz Tryz.prog Qz 117 ys (· = v) := by
 unfold kNew at h
 split at h
 case h_2 => cases h
 cases h
 exact new_fz
end
section
set_option maxRecDepth 100000
open Go.AM Go.AM.BM
attribute [local irreducible] U W
theorem Q09 : CW Tryz.prog Qz 126 [.agg [.nS, .nS]] [] fun x _ => x = .ret (.int .i64 8) := by
 refine Xm Tryz.func126 rfl ?_
 have l1 : ∀ g, Y2 Tryz.prog g 22 .nS = some (.int .i64 0) := fun g => Zo.nil (esz := 1) |>.len Tryz.underlying22 g
 have l2 : ∀ g, Y2 Tryz.prog g 23 .nS = some (.int .i64 0) := fun g => Zo.nil (esz := 2) |>.len Tryz.underlying23 g
 simp only [Qn, Qg, Qf, Ql, Qa, Qc, nov, gd, rho, Qd, wr, Nat.reduceAdd, Nat.reduceSub, if_true, if_false, reduceIte, reduceCtorEq, Qi, Int.reduceBEq, Int.reduceBNe, Int.reduceLT, Int.reduceLE, ↓Qh, Tryz.ntmps126, ta, new, Qb, hset, Qu, Qs, Qp, Nat.reduceLT, Nat.reduceEqDiff, splice, zerosN, Qo, Qr, Qk, V.pure, Nat.reduceMul, Nat.reduceLeDiff, Qq, l1, l2]
 refine W.ul ?_
 refine W.loopS (kt := [1, 3, 19, 20, 21]) rfl (fun _ : Nat => Qlc (.ptr 0 1 0) (.bool false) .nS (.int .i64 0) (.int .i64 0)) (fun _ => [[(1, .cells [.nS, .nS])]]) (fun _ => True) (fun i => i) ?_ 0 trivial rfl rfl
 rintro i hi
 simp only [Qlc]
 simp only [Qn, Qg, Qf, Ql, Qa, Qc, nov, gd, rho, Qd, wr, Nat.reduceAdd, Nat.reduceSub, if_true, if_false, reduceIte, reduceCtorEq, Qi, Int.reduceBEq, Int.reduceBNe, Int.reduceLT, Int.reduceLE, ↓Qh]
 refine W.done ?_
 simp only [Qn, Qg, Qf, Ql, Qa, Qc, nov, gd, rho, Qd, wr, Nat.reduceAdd, Nat.reduceSub, if_true, if_false, reduceIte, reduceCtorEq, Qi, Int.reduceBEq, Int.reduceBNe, Int.reduceLT, Int.reduceLE, ↓Qh, ta, new, Qb, hset, Qu, Qs, Qp, Nat.reduceLT, Nat.reduceEqDiff, splice, zerosN, Qo, Qr, Qk, V.pure, Nat.reduceMul, Nat.reduceLeDiff, Qq, l1, l2]
 refine W.ul ?_
 refine W.loop (fun (_ : Nat) t H => Bl [3, 33, 34, 35] t 0 = Qh4 (.bool false) .nS (.int .i64 0) (.int .i64 0) /\ H = [[(1, .cells [.nS, .nS])]]) (fun i => i) ?_ 0 ⟨rfl, rfl⟩ rfl
 rintro i t H ⟨ht, rfl⟩
 have hd : ([[(1, .cells [.nS, .nS])]] : Heap).modify 0 (J7 fun s => [7].contains s) = [[(1, .cells [.nS, .nS])]] := rfl
 refine ⟨_, _, Ye (kt := [3, 33, 34, 35]) (ds := [7]) rfl ?_ ?_, ?_⟩
 . rw [ht]; rfl
 . rw [hd]; rfl
 rw [ht, hd]
 simp only [Qh4]
 simp only [Qn, Qg, Qf, Ql, Qa, Qc, nov, gd, rho, Qd, wr, Nat.reduceAdd, Nat.reduceSub, if_true, if_false, reduceIte, reduceCtorEq, Qi, Int.reduceBEq, Int.reduceBNe, Int.reduceLT, Int.reduceLE, ↓Qh]
 refine W.done ?_
 simp only [Qn, Qg, Qf, Ql, Qa, Qc, nov, gd, rho, Qd, wr, Nat.reduceAdd, Nat.reduceSub, if_true, if_false, reduceIte, reduceCtorEq, Qi, Int.reduceBEq, Int.reduceBNe, Int.reduceLT, Int.reduceLE, ↓Qh]
 exact W.done (End.ret (v := .int .i64 8) rfl rfl)
theorem Qqc (ys : List V) (v : V) (h : Qne ys = some v) : FzN Tryz.prog Qz 126 ys v := by
 unfold Qne at h
 split at h
 case h_3 => cases h
 . cases h
   obtain ⟨r, H, e, rfl⟩ := Q09
   exact ⟨_, _, e, rfl⟩
 . rename_i bv wv _
   split at h
   case h_2 => cases h
   rename_i rv cs hb hw
   obtain ⟨cs, n⟩ := cs
   cases h
   obtain ⟨fl, rfl, h1, h2, h3⟩ := Qg3 hb
   obtain ⟨w1, w2, w3, w4, w5⟩ := Qjg hw
   obtain ⟨r, H, e, rfl⟩ := Q4w rv fl _ h1 h2 wv cs n w1 w2 (waA cs) (waD cs) w3 w4
   exact ⟨_, _, e, rfl⟩
end
section
set_option maxRecDepth 100000
open Go.AM Go.AM.BM
attribute [local irreducible] U W
def Qn6 (a : Nat -> Int) (dv : Nat -> V) : Nat -> List V -> List V
 | 0, rv => rv
 | i + 1, rv => (Qn6 a dv i rv).set (a i).toNat (dv i)
theorem Ql1 (a : Nat -> Int) (dv : Nat -> V) : ∀ (n : Nat) (rv : List V), Qn6 a dv (n + 1) rv = Qn6 (fun j => a (j + 1)) (fun j => dv (j + 1)) n (rv.set (a 0).toNat (dv 0))
 | 0, rv => rfl
 | n + 1, rv => by
   show (Qn6 a dv (n + 1) rv).set _ _ = _
   rw [Ql1 a dv n rv]; rfl
theorem Qkc (a : Nat -> Int) (dv : Nat -> V) : ∀ (n : Nat) (rv : List V), (Qn6 a dv n rv).length = rv.length
 | 0, _ => rfl
 | n + 1, rv => by rw [Qn6, Zla, Qkc a dv n rv]
theorem Quu (a : Nat -> Int) (dv : Nat -> V) : ∀ (n : Nat) (rv : List V) (x : V), x ∈ Qn6 a dv n rv -> x ∈ rv \/ ∃ j, j < n /\ x = dv j
 | 0, _, x, h => .inl h
 | n + 1, rv, x, h => by
   rcases List.mem_or_eq_of_mem_set h with h | rfl
   . rcases Quu a dv n rv x h with h | ⟨j, hj, e⟩
     . exact .inl h
     . exact .inr ⟨j, by omega, e⟩
   . exact .inr ⟨n, by omega, rfl⟩
def waV (cs : List V) (j : Nat) : V := cs.getD (2 * j + 1) .bad
theorem Qd7 : ∀ (n : Nat) (cs rv : List V), Qcg cs = true -> cs.length = n * 2 -> Qdz cs rv = Qn6 (waA cs) (waV cs) n rv
 | 0, cs, rv, _, h => by
   have : cs = [] := List.length_eq_zero_iff.1 (by omega)
   subst this; rfl
 | n + 1, [], rv, _, h => by simp at h
 | n + 1, [x], rv, _, h => by simp at h; omega
 | n + 1, x :: v :: r, rv, h, hl => by
   unfold Qcg at h
   split at h
   . rename_i e; cases e
   . rename_i a v' r' e
     cases e
     simp only [Zjj] at h
     have ih := Qd7 n r (rv.set a.toNat v) h.2 (by simp only [Zja] at hl; omega)
     show Qdz r (rv.set a.toNat v) = _
     rw [ih, Ql1]
     have e1 : (fun j => waA (.int .i64 a :: v :: r) (j + 1)) = waA r := by
      funext j
      simp only [waA]
      rw [show 2 * (j + 1) = 2 * j + 1 + 1 by omega, List.getD_cons_succ, List.getD_cons_succ]
     have e2 : (fun j => waV (.int .i64 a :: v :: r) (j + 1)) = waV r := by
      funext j
      simp only [waV]
      rw [show 2 * (j + 1) + 1 = 2 * j + 1 + 1 + 1 by omega, List.getD_cons_succ, List.getD_cons_succ]
     rw [e1, e2]; rfl
   . cases h
theorem Qpe : ∀ (L : List (Int × V)) (k : Int) (v : V), (k, v) ∈ B0 L k v
 | [], k, v => by simp [B0]
 | (k', v') :: r, k, v => by
   simp only [B0]
   split
   . simp
   . exact Zjh _ (Qpe r k v)
theorem Qqb : ∀ (L : List (Int × V)) (k : Int) (v : V) (x : Int × V), x.1 ≠ k -> x ∈ L -> x ∈ B0 L k v
 | (k', v') :: r, k, v, x, hx, h => by
   simp only [B0]
   rcases Zjf.1 h with rfl | h
   . rw [if_neg (fun e => hx e.symm)]; simp
   . split
     . exact Zjh _ h
     . exact Zjh _ (Qqb r k v x hx h)
def Qew (L : List (Int × V)) (rv : List V) : List V := Z7 L (List.range L.length) rv
theorem Qhr {L : List (Int × V)} (hn : (L.map Prod.fst).Nodup) (h0 : ∀ x ∈ L, 0 <= x.1) {x : Int × V} (hx : x ∈ L) {rv : List V} (hl : x.1.toNat < rv.length) : (Qew L rv)[x.1.toNat]? = some x.2 := by
 obtain ⟨b, hb⟩ := Zj4.1 hx
 exact Qdu L (fun b c k v w h1 h2 => Qmn hn b c k v w h1 h2) (fun b k v h => h0 _ (List.mem_of_getElem? h)) (k := x.1) (v := x.2) hb _ rv (Zko.2 (Zj3.1 hb).1) hl
theorem Qj1 {L : List (Int × V)} {i : Nat} (h : ∀ x ∈ L, x.1.toNat ≠ i) (rv : List V) : (Qew L rv)[i]? = rv[i]? :=
 Qaw L i _ rv fun b _ k v hb => h _ (List.mem_of_getElem? hb)
theorem Qxh {L : List (Int × V)} (hn : (L.map Prod.fst).Nodup) (h0 : ∀ x ∈ L, 0 <= x.1 /\ x.1 < 256) (k : Int) (v : V) (k0 : 0 <= k) (k1 : k < 256) (rv : List V) (hl : rv.length = 256) : Qew (B0 L k v) rv = (Qew L rv).set k.toNat v := by
 have hn2 := Qg9 L k v hn
 have h2 : ∀ x ∈ B0 L k v, 0 <= x.1 := fun x hx => by
  rcases Qfy _ _ _ _ hx with rfl | hx
  . exact k0
  . exact (h0 x hx).1
 have la : (Qew L rv).length = 256 := by rw [Qew, Qaj, hl]
 apply Zkb
 intro i
 by_cases hi : i = k.toNat
 . subst hi
   have := Qhr hn2 h2 (Qpe L k v) (rv := rv) (by show k.toNat < _; omega)
   rw [Zkx, if_pos rfl, if_pos (by omega)]
   exact this
 . rw [Zkx, if_neg (fun e => hi e.symm)]
   by_cases hx : ∃ x ∈ L, x.1.toNat = i
   . obtain ⟨x, hx, rfl⟩ := hx
     have hk : x.1 ≠ k := fun e => hi (by rw [e])
     have b := h0 x hx
     rw [Qhr hn2 h2 (Qqb L k v x hk hx) (by omega), Qhr hn (fun x hx => (h0 x hx).1) hx (by omega)]
   . have hm : ∀ x ∈ L, x.1.toNat ≠ i := fun x hx' e => hx ⟨x, hx', e⟩
     rw [Qj1 hm, Qj1]
     intro x hx'
     rcases Qfy _ _ _ _ hx' with rfl | h
     . exact fun e => hi e.symm
     . exact hm x h
theorem Qpl (a : Nat -> Int) (dv : Nat -> V) (rv : List V) (hl : rv.length = 256) (n : Nat) (ha : ∀ j, j < n -> 0 <= a j /\ a j < 256) : ∀ i, i <= n -> Qn6 a dv i rv = Qew (Kv a dv i) rv
 | 0, _ => rfl
 | i + 1, hi => by
   have q := ha i (by omega)
   show (Qn6 a dv i rv).set _ _ = Qew (B0 (Kv a dv i) (a i) (dv i)) rv
   rw [Qxh (Qex a dv i) (fun x hx => ?_) (a i) (dv i) q.1 q.2 rv hl, Qpl a dv rv hl n ha i (by omega)]
   obtain ⟨j, hj, e⟩ := Qhj a dv i x hx
   rw [e]; exact ha j (by omega)
theorem Q6g (l : List V) (h : ∀ x ∈ l, ∃ c f, x = .iS c 256 f /\ J3 c) (hl : l.length = 256) :
 (∀ i, i < 256 -> ∃ f, l[i]? = some (.iS (Qoa (l.getD i .bad)) 256 f)) /\ ∀ i, i < 256 -> J3 (Qoa (l.getD i .bad)) := by
 have key : ∀ i, i < 256 -> ∃ c g, l[i]? = some (.iS c 256 g) /\ l.getD i .bad = .iS c 256 g /\ J3 c := fun i hi => by
  have hl : i < l.length := by omega
  obtain ⟨c, g, e, hr⟩ := h l[i] (List.getElem_mem hl)
  have e1 : l[i]? = some (.iS c 256 g) := by rw [Zis hl, e]
  exact ⟨c, g, e1, by simp [List.getD, e1], hr⟩
 refine ⟨fun i hi => ?_, fun i hi => ?_⟩
 . obtain ⟨c, g, e1, e2, _⟩ := key i hi
   exact ⟨g, by rw [e1, e2]; rfl⟩
 . obtain ⟨c, g, _, e2, hr⟩ := key i hi
   rw [e2]; exact hr
theorem Qwj {wv : V} {cs : List V} {n : Nat} (h : Qhn wv = some (cs, n)) : Qcg cs = true := by
 cases wv with
 | nS => cases h; rfl
 | iS xs m f =>
   simp only [Qhn] at h
   split at h
   case isFalse => cases h
   rename_i hc
   cases h
   simp only [Zjj] at hc
   exact hc.2
 | _ => cases h
theorem Q2n (ys : List V) (v : V) (h : Qzf 178 ys = some v) : Fz Tryz.prog Qz 177 ys (· = v) := by
 unfold Qzf at h
 split at h
 case h_2 => cases h
 rename_i bv wv sv
 split at h
 case isFalse => cases h
 rename_i hfn
 split at h
 case h_2 => cases h
 rename_i rv cs n hb hw
 split at h
 case isFalse => cases h
 rename_i hc
 cases h
 have hsr : ∀ p, sv.refs p = false := fun p => by
  unfold isFn at hfn
  split at hfn
  . rfl
  . rfl
  . rfl
  . cases hfn
 have hso : sv = .func (.func 178) [] [] \/ n = 0 := by
  rcases Bool.or_eq_true_iff.1 hc with h | h
  . left
    unfold isAll at h
    split at h
    . cases Zld h; rfl
    . cases h
  . exact .inr (Zld h)
 obtain ⟨fl, rfl, h1, h2, h3⟩ := Qg3 hb
 obtain ⟨w1, w2, w3, w4, w5⟩ := Qjg hw
 have wok := Qwj hw
 have wv3 : ∀ j, j < n -> ∃ c f, waV cs j = .iS c 256 f /\ J3 c /\ cs[2 * j + 1]? = some (waV cs j) := fun j hj => by
  obtain ⟨_, f, e⟩ := w3 j hj
  have e2 : waV cs j = .iS (waD cs j) 256 f := by simp [waV, List.getD, e]
  exact ⟨_, f, e2, w5 j hj, by rw [e2]; exact e⟩
 have eA : Qdz cs rv = Z7 (Kv (waA cs) (waV cs) n) (List.range (Kv (waA cs) (waV cs) n).length) rv := by
  rw [Qd7 n cs rv wok w1.1, Qpl (waA cs) (waV cs) rv h1 n w4 n (Zix n)]; rfl
 have hl2 : (Qdz cs rv).length = 256 := by rw [Qd7 n cs rv wok w1.1, Qkc, h1]
 have hm : ∀ x ∈ Qdz cs rv, ∃ c f, x = .iS c 256 f /\ J3 c := fun x hx => by
  rw [Qd7 n cs rv wok w1.1] at hx
  rcases Quu _ _ n rv x hx with hx | ⟨j, hj, rfl⟩
  . obtain ⟨i, hi⟩ := Zj4.1 hx
    have hi2 : i < 256 := by rw [<- h1]; exact (Zj3.1 hi).1
    obtain ⟨f, e⟩ := h2 i hi2
    have := h3 i hi2
    rw [hi] at e
    cases e
    exact ⟨_, f, rfl, this⟩
  . obtain ⟨c, f, e, hc, _⟩ := wv3 j hj
    exact ⟨c, f, e, hc⟩
 obtain ⟨r1, r2⟩ := Q6g _ hm hl2
 have e3 := Qm3 (Qdz cs rv) [] 0 hl2 rfl (fun j hj => by omega)
 rw [<- e3]
 exact Q7c rv fl _ h1 h2 h3 wv cs n w1 w2 (waA cs) (waV cs) (fun j hj => ⟨(w3 j hj).1, by obtain ⟨_, _, _, _, e⟩ := wv3 j hj; exact e⟩) w4 (fun j hj => by obtain ⟨c, f, e, hc, _⟩ := wv3 j hj; exact ⟨c, f, e, hc⟩) (fun i => Qoa ((Qdz cs rv).getD i .bad)) (fun i hi => by rw [<- eA]; exact r1 i hi) r2 sv hso hsr
end
section
set_option maxRecDepth 100000
open Go.AM Go.AM.BM
attribute [local irreducible] U W
def leB (n : Nat) : Nat -> List UInt8
 | 0 => []
 | i + 1 => leB n i ++ [UInt8.ofNat (n / 256 ^ i)]
theorem Qlj (n : Nat) : ∀ i, (leB n i).length = i
 | 0 => rfl
 | i + 1 => by simp [leB, Qlj n i]
def Qsd (n : Nat) : Nat -> V
 | 0 => .nS
 | i + 1 => .gS 0 31 (Qj (leB n (i + 1))) (i + 1) 1
def Qsp : Nat -> AM.Heap
 | 0 => [[]]
 | i + 1 => [[(31, .grow (i + 1))]]
def Qlf (n k : Nat) : V := if !(decide (0 < k) && decide (k <= 4)) || decide (256 ^ k <= n) then .tuple [.nS, .int .i64 2] else .tuple [.iS (Qj (leB n k)) k false, .int .i64 0]
theorem Qho (g : Get) (m : Nat) : ∀ l : List UInt8, Zc (frzN g (m + 1)) (Qj l) = some (Qj l)
 | [] => rfl
 | b :: l => by
   have := Qho g m l
   simp only [Qj, Zje] at this ⊢
   exact Qt rfl this
theorem put_cw (n k : Nat) (hn : n <= 281474976710656) (hk : k <= 4294967296) : CW Tryz.prog Qz 88 [.int .i64 n, .int .i64 k] [] fun r H => ∃ v0, r = .ret v0 /\ frzN (Qb H) depth v0 = some (Qlf n k) /\ frz (Qb H) depth v0 = some (Qlf n k) := by
 refine Xm Tryz.func88 rfl ?_
 obtain ⟨m, rfl, hm⟩ := (Qun k).op (by rfl) rfl
 have hm' : ∀ s H, _ := fun s H => hm 88 0 s H rfl
 have c0 : decide ((n : Int) < 0) = false := by simp
 have err : ∀ (T : List V), T.getD 4 .bad = .nS -> T.getD 5 .bad = .int .i64 2 -> Qlf n k = .tuple [.nS, .int .i64 2] -> AM.End Tryz.prog Tryz.f88 0 (fun r H => ∃ v0, r = .ret v0 /\ frzN (Qb H) depth v0 = some (Qlf n k) /\ frz (Qb H) depth v0 = some (Qlf n k)) .ret T [[]] := by
  intro T h1 h2 h3
  refine End.ret (v := .tuple [.nS, .int .i64 2]) ?_ ⟨_, rfl, by rw [h3]; rfl, by rw [h3]; rfl⟩
  show (match Qfm Tryz.prog T [[]] [.tmp 4, .tmp 5] with | some [v] => some v | some vs => some (V.tuple vs) | none => none) = _
  simp only [Qfm, Bd, h1, h2]
 cases hs : (decide (0 < k) && decide (k <= 4)) with
 | false =>
   rw [hs] at hm'
   simp only [Qn, Qg, Qf, Ql, Qa, Qc, nov, gd, rho, Qd, wr, Nat.reduceAdd, Nat.reduceSub, if_true, if_false, reduceIte, reduceCtorEq, Qi, Int.reduceBEq, Int.reduceBNe, Int.reduceLT, Int.reduceLE, ↓Qh, Tryz.ntmps88, ta, new, Qb, hset, Qu, Qs, Qp, Nat.reduceLT, Nat.reduceEqDiff, splice, zerosN, Qo, Qr, Qk, V.pure, Nat.reduceMul, Nat.reduceLeDiff, Qq, hm']
   refine W.done (err _ rfl rfl ?_)
   simp [Qlf, hs]
 | true =>
   rw [hs] at hm'
   have hk4 : 0 < k /\ k <= 4 := by simpa using hs
   have m8 : (IntKind.i64).wrap (8 * (k : Int)) = ((8 * k : Nat) : Int) := by rw [wrap_i64] <;> omega
   have sh : ∀ p q, Zz Tryz.prog .shl 3 p q (.int .i64 1) (.int .i64 ((8 * k : Nat) : Int)) = some (.int .i64 ((256 ^ k : Nat) : Int)) := fun p q => by
    obtain ⟨h1, h2⟩ := hk4
    have : k = 1 \/ k = 2 \/ k = 3 \/ k = 4 := by omega
    rcases this with rfl | rfl | rfl | rfl <;> rfl
   have cg : decide ((n : Int) >= ((256 ^ k : Nat) : Int)) = decide (256 ^ k <= n) := by simp only [ge_iff_le, Int.ofNat_le]
   simp only [Qn, Qg, Qf, Ql, Qa, Qc, nov, gd, rho, Qd, wr, Nat.reduceAdd, Nat.reduceSub, if_true, if_false, reduceIte, reduceCtorEq, Qi, Int.reduceBEq, Int.reduceBNe, Int.reduceLT, Int.reduceLE, ↓Qh, Tryz.ntmps88, ta, new, Qb, hset, Qu, Qs, Qp, Nat.reduceLT, Nat.reduceEqDiff, splice, zerosN, Qo, Qr, Qk, V.pure, Nat.reduceMul, Nat.reduceLeDiff, Qq, hm', c0, m8, sh, cg]
   refine W.ite (fun h => ?_) (fun h => ?_)
   . simp only [Qn, Qg, Qf, Ql, Qa, Qc, nov, gd, rho, Qd, wr, Nat.reduceAdd, Nat.reduceSub, if_true, if_false, reduceIte, reduceCtorEq, Qi, Int.reduceBEq, Int.reduceBNe, Int.reduceLT, Int.reduceLE, ↓Qh]
     refine W.done (err _ rfl rfl ?_)
     simp only [decide_eq_true_eq] at h
     simp [Qlf, hs, h]
   . have hv : Qlf n k = .tuple [.iS (Qj (leB n k)) k false, .int .i64 0] := by
      simp only [Qlf, hs, h]; rfl
     rw [hv]
     simp only [Qn, Qg, Qf, Ql, Qa, Qc, nov, gd, rho, Qd, wr, Nat.reduceAdd, Nat.reduceSub, if_true, if_false, reduceIte, reduceCtorEq, Qi, Int.reduceBEq, Int.reduceBNe, Int.reduceLT, Int.reduceLE, ↓Qh, ta, new, Qb, hset, Qu, Qs, Qp, Nat.reduceLT, Nat.reduceEqDiff, splice, zerosN, Qo, Qr, Qk, V.pure, Nat.reduceMul, Nat.reduceLeDiff, Qq]
     refine W.ul ?_
     refine W.loopS (kt := [0, 1, 6]) rfl (fun i : Nat => Q2h (.int .i64 ((n / 256 ^ i : Nat) : Int)) (.int .i64 k) (Qsd n i)) Qsp (fun i => i <= k) (fun i => k - i) ?_ 0 (Nat.zero_le _) (by simp only [Nat.pow_zero, Nat.div_one]; rfl) rfl
     intro i hi
     simp only [Q2h]
     have len : ∀ g, Y2 Tryz.prog g 26 (Qsd n i) = some (.int .i64 (i : Nat)) := fun g => by
      cases i with
      | zero => exact Qd4 Tryz.underlying26
      | succ i => exact len_g Tryz.underlying26 g
     by_cases h2 : i < k
     . have c1 : decide ((i : Int) < k) = true := by simp only [decide_eq_true_eq]; omega
       generalize hN : n / 256 ^ i = N
       have hNn : N <= n := by rw [<- hN]; exact Nat.div_le_self _ _
       have cv : ∀ g, convertV Tryz.prog g 3 5 (.int .i64 N) = some (.val (.int .u8 ((UInt8.ofNat N).toNat : Nat)) none) := fun g => by
        simp only [convertV, Tryz.underlying3, Tryz.underlying5]
        have : (IntKind.u8).wrap (N : Int) = ((UInt8.ofNat N).toNat : Int) := by
         rw [IntKind.wrap_u8, UInt8.toNat_ofNat']; omega
        simp only [this]
       have q : ∀ x y, Zz Tryz.prog .quo 3 x y (.int .i64 N) (.int .i64 256) = some (.int .i64 ((N / 256 : Nat) : Int)) := fun x y => by
        have e : (N : Int).tdiv 256 = ((N / 256 : Nat) : Int) := by
         rw [Int.tdiv_eq_ediv_of_nonneg (by omega)]; omega
        have w : (IntKind.i64).wrap ((N / 256 : Nat) : Int) = ((N / 256 : Nat) : Int) := by rw [wrap_i64] <;> omega
        show some (V.int .i64 ((IntKind.i64).wrap ((N : Int).tdiv 256))) = _
        rw [e, w]
       have ap : Zl Tryz.prog (Qz.mt 88) 0 (Qb (Qsp i)) (some 31) 26 26 (Qsd n i) (.iS [.int .u8 ((UInt8.ofNat N).toNat : Nat)] 1 true) = some (.val (Qsd n (i + 1)) (some (0, 31, .grow (i + 1)))) := by
        have mt : Qz.mt 88 31 = false := rfl
        have e2 : Qj (leB n (i + 1)) = Qj (leB n i) ++ [.int .u8 ((UInt8.ofNat N).toNat : Nat)] := by rw [leB, Bx, hN]; rfl
        cases i with
        | zero =>
          rw [Qsd, Qsd, Qf7 Tryz.underlying26 sz5 Qso zc5 rfl Tryz.underlying26 (m := 1) (cs := [.int .u8 ((UInt8.ofNat N).toNat : Nat)]) rfl (by omega) (by decide), Qb0 mt rfl rfl, e2]
          rfl
        | succ i =>
          rw [Qsd, Qsd, Qff Tryz.underlying26 sz5 Qso zc5 rfl Tryz.underlying26 (cs := [.int .u8 ((UInt8.ofNat N).toNat : Nat)]) (m := 1) rfl (by omega) (Qas (by omega) (by omega)) rfl rfl rfl, e2]
       have hs2 : List.modify (Qsp i) 0 (fun fr => Qs fr 31 (.grow (i + 1))) = Qsp (i + 1) := by cases i <;> rfl
       have mt : ∀ s, Qz.mt 88 s = false := fun s => rfl
       generalize Qsd n i = S at *
       generalize Qsp i = K at *
       simp only [Qn, Qg, Qf, Ql, Qa, Qc, nov, gd, rho, Qd, wr, Nat.reduceAdd, Nat.reduceSub, if_true, if_false, reduceIte, reduceCtorEq, Qi, Int.reduceBEq, Int.reduceBNe, Int.reduceLT, Int.reduceLE, ↓Qh, ta, new, Qb, hset, Qu, Qs, Qp, Nat.reduceLT, Nat.reduceEqDiff, splice, zerosN, Qo, Qr, Qk, V.pure, Nat.reduceMul, Nat.reduceLeDiff, Qq, len, c1, cv, q, mt, Yg, ap, hs2, Tryz.underlying26]
       refine W.done ⟨i + 1, ?_, rfl, h2, by omega⟩
       have : n / 256 ^ (i + 1) = N / 256 := by rw [Nat.pow_succ, <- Nat.div_div_eq_div_mul, hN]
       rw [this]; rfl
     . have hik : i = k := by omega
       subst hik
       have c1 : decide ((i : Int) < i) = false := by simp
       simp only [Qn, Qg, Qf, Ql, Qa, Qc, nov, gd, rho, Qd, wr, Nat.reduceAdd, Nat.reduceSub, if_true, if_false, reduceIte, reduceCtorEq, Qi, Int.reduceBEq, Int.reduceBNe, Int.reduceLT, Int.reduceLE, ↓Qh, ta, new, Qb, hset, Qu, Qs, Qp, Nat.reduceLT, Nat.reduceEqDiff, splice, zerosN, Qo, Qr, Qk, V.pure, Nat.reduceMul, Nat.reduceLeDiff, Qq, len, c1]
       refine W.done ?_
       simp only [Qn, Qg, Qf, Ql, Qa, Qc, nov, gd, rho, Qd, wr, Nat.reduceAdd, Nat.reduceSub, if_true, if_false, reduceIte, reduceCtorEq, Qi, Int.reduceBEq, Int.reduceBNe, Int.reduceLT, Int.reduceLE, ↓Qh, ta, new, Qb, hset, Qu, Qs, Qp, Nat.reduceLT, Nat.reduceEqDiff, splice, zerosN, Qo, Qr, Qk, V.pure, Nat.reduceMul, Nat.reduceLeDiff, Qq]
       obtain ⟨j, rfl⟩ : ∃ j, i = j + 1 := ⟨i - 1, by omega⟩
       refine W.done (End.ret (v := .tuple [.gS 0 31 (Qj (leB n (j + 1))) (j + 1) 1, .int .i64 0]) rfl ⟨_, rfl, ?_, ?_⟩) <;> rw [Qae rfl]
       . have fl : Zc (frzN (Qb (Qsp (j + 1))) 10) (Qj (leB n (j + 1))) = some (Qj (leB n (j + 1))) := Qho _ _ _
         have f1 : frzN (Qb (Qsp (j + 1))) 11 (.gS 0 31 (Qj (leB n (j + 1))) (j + 1) 1) = some (.iS (Qj (leB n (j + 1))) (j + 1) false) := by
          show (if j + 1 = j + 1 then (Zc (frzN (Qb (Qsp (j + 1))) 10) (Qj (leB n (j + 1)))).map _ else none) = _
          rw [fl, if_pos rfl]; rfl
         show (Zc (frzN _ 11) [V.gS 0 31 (Qj (leB n (j + 1))) (j + 1) 1, .int .i64 0]).map _ = _
         rw [Qt f1 (Qt (y := .int .i64 0) rfl rfl)]; rfl
       . have f1 := Qxv (l := leB n (j + 1)) (f := 0) (s := 31) (n := j + 1) (e := 1) (Qb (Qsp (j + 1))) 9
         show (Zc (frz _ 11) [V.gS 0 31 (Qj (leB n (j + 1))) (j + 1) 1, .int .i64 0]).map _ = _
         rw [Qt f1 (Qt (y := .int .i64 0) rfl rfl)]; rfl
end
section
set_option maxRecDepth 100000
open Go.AM Go.AM.BM
attribute [local irreducible] U W
theorem Qtj (n : Nat) : ∀ i, leB n (i + 1) = UInt8.ofNat n :: leB (n / 256) i
 | 0 => by simp [leB]
 | i + 1 => by
   rw [leB, Qtj n i, leB]
   have : n / 256 ^ (i + 1) = n / 256 / 256 ^ i := by rw [Nat.pow_succ', Nat.div_div_eq_div_mul]
   rw [this]; rfl
theorem Qm6 : ∀ (k n : Nat), Qhv n k = Qj (leB n k)
 | 0, n => rfl
 | k + 1, n => by
   rw [Qtj, Qhv, Qm6 k (Nat.div n 256)]
   have e : (UInt8.ofNat n).toNat = n % 256 := by rw [UInt8.toNat_ofNat']
   show V.int .u8 (Int.ofNat (n % 256)) :: Qj (leB (n / 256) k) = V.int .u8 ((UInt8.ofNat n).toNat : Int) :: Qj (leB (n / 256) k)
   rw [e]; rfl
end
section
set_option maxRecDepth 100000
open Go.AM Go.AM.BM
attribute [local irreducible] U W
theorem put_fz (n : Nat) (hn : n < 4294967296) : Fz Tryz.prog Qz 88 [.int .i64 n, .int .i64 4] fun r => r = .tuple [.iS (Qj (leB n 4)) 4 false, .int .i64 0] := by
 obtain ⟨r, H, h1, v0, rfl, _, h2⟩ := put_cw n 4 (by omega) (by decide)
 have e : Qlf n 4 = .tuple [.iS (Qj (leB n 4)) 4 false, .int .i64 0] := by
  have : ¬ 256 ^ 4 <= n := by omega
  simp [Qlf, this]
 exact ⟨v0, H, _, h1, h2, e⟩
theorem Q2c {l : List UInt8} (hl : l.length <= 1048576) : wok (Qfv l) := by
 have ok := Qil (l := B1 l (Ka l.length)) (j := (l.length + 1 + Ka l.length) / 8) (by rw [Qcc]; omega)
 exact Qi9 8 ⟨ok.1, Qct ok.2.1 (by omega), ok.2.2.1, ok.2.2.2⟩
def wi (x : W4) : Nat -> Nat
 | 0 => x.a
 | 1 => x.b
 | 2 => x.c
 | _ => x.d
theorem wi_lt {x : W4} (h : wok x) : ∀ i, wi x i < 4294967296
 | 0 => h.1
 | 1 => h.2.1
 | 2 => h.2.2.1
 | _ + 3 => h.2.2.2
def Qvb (x : W4) : Nat -> List UInt8
 | 0 => []
 | i + 1 => Qvb x i ++ leB (wi x i) 4
def Qsg (x : W4) : Nat -> V
 | 0 => .nS
 | i + 1 => .gS 0 21 (Qj (Qvb x (i + 1))) (4 * (i + 1)) 1
def keyH : Nat -> AM.Heap
 | 0 => [[]]
 | i + 1 => [[(21, .grow (4 * (i + 1)))]]
theorem Q5k {l : List UInt8} {f s n e : Nat} {g : Get} (h : g f s = some (.grow n)) (m : Nat) : frzN g (m + 2) (.gS f s (Qj l) n e) = some (.iS (Qj l) n false) := by
 have fl : Zc (frzN g (m + 1)) (Qj l) = some (Qj l) := Qho _ _ _
 have e1 : frzN g (m + 2) (.gS f s (Qj l) n e) = (match g f s with
  | some (.grow k) => if k = n then (Zc (frzN g (m + 1)) (Qj l)).map fun cs => .iS cs n false else none
  | _ => none) := rfl
 rw [e1, h]
 simp only [if_true, fl, Zit]
theorem key_cw (v : V) (l : List UInt8) (hv : Q1 v l) (hl : l.length <= 1048576) : CW Tryz.prog Qz 136 [v] [] fun r H => ∃ v0, r = .ret v0 /\ frzN (Qb H) depth v0 = some (.iS (Qj (Qvb (Qfv l) 4)) 16 false) := by
 refine Xm Tryz.func136 rfl ?_
 obtain ⟨m, rfl, hm⟩ := (Qyn v l hv hl).op (by rfl) (Qt (hv.frz _) rfl)
 have hm' : ∀ s H, _ := fun s H => hm 136 0 s H rfl
 have ok := Q2c hl
 generalize Qfv l = z at *
 simp only [Qn, Qg, Qf, Ql, Qa, Qc, nov, gd, rho, Qd, wr, Nat.reduceAdd, Nat.reduceSub, if_true, if_false, reduceIte, reduceCtorEq, Qi, Int.reduceBEq, Int.reduceBNe, Int.reduceLT, Int.reduceLE, ↓Qh, Tryz.ntmps136, ta, new, Qb, hset, Qu, Qs, Qp, Nat.reduceLT, Nat.reduceEqDiff, splice, zerosN, Qo, Qr, Qk, V.pure, Nat.reduceMul, Nat.reduceLeDiff, Qq, hm']
 refine W.ul ?_
 refine W.loopS (kt := [3, 9, 10]) rfl (fun i : Nat => Qzk (Qsg z i) (.agg (wc z)) (.int .i64 i)) keyH (fun i => i <= 4) (fun i => 4 - i) ?_ 0 (Nat.zero_le _) rfl rfl
 intro i hi
 simp only [Qzk]
 by_cases h : i < 4
 . have c1 : decide ((i : Int) < 4) = true := by simp; omega
   have ix : Qdx Tryz.prog 247 (.agg (wc z)) (.int .i64 i) = some (.int .u32 (wi z i)) := by
    have : i = 0 \/ i = 1 \/ i = 2 \/ i = 3 := by omega
    rcases this with rfl | rfl | rfl | rfl <;> (simp only [Qdx, Tryz.underlying247, Qr3]; rfl)
   have cv : ∀ g, convertV Tryz.prog g 27 3 (.int .u32 (wi z i)) = some (.val (.int .i64 (wi z i)) none) := fun g => by
    simp only [convertV, Tryz.underlying3, Tryz.underlying27]
    have := wi_lt ok i
    have : (IntKind.i64).wrap (wi z i : Int) = (wi z i : Int) := by rw [wrap_i64] <;> omega
    simp only [this]
   obtain ⟨m2, rfl, hm2⟩ := (put_fz (wi z i) (wi_lt ok i)).op (by rfl) rfl
   have hm2' : ∀ s H, _ := fun s H => hm2 136 0 s H rfl
   have w1 : (IntKind.i64).wrap ((i : Int) + 1) = ((i + 1 : Nat) : Int) := by rw [wrap_i64] <;> omega
   have mt : ∀ s, Qz.mt 136 s = false := fun s => rfl
   have ap : Zl Tryz.prog (Qz.mt 136) 0 (Qb (keyH i)) (some 21) 26 26 (Qsg z i) (.iS (Qj (leB (wi z i) 4)) 4 false) = some (.val (Qsg z (i + 1)) (some (0, 21, .grow (4 * (i + 1))))) := by
    have e2 : Qj (Qvb z (i + 1)) = Qj (Qvb z i) ++ Qj (leB (wi z i) 4) := by rw [Qvb, Bx]
    have sc : ∀ g, Qy g 1 (.iS (Qj (leB (wi z i) 4)) 4 false) = some (Qj (leB (wi z i) 4), 4) := fun g => by
     simp [Qy, Yj, Qlj]
    cases i with
    | zero =>
      rw [Qsg, Qsg, Qf7 Tryz.underlying26 sz5 Qso zc5 rfl Tryz.underlying26 (sc _) (by omega) (by decide), Qb0 (mt _) (Qcw _) rfl, e2]
      rfl
    | succ i =>
      rw [Qsg, Qsg, Qff Tryz.underlying26 sz5 Qso zc5 rfl Tryz.underlying26 (sc _) (by omega) (Qas (by omega) (by omega)) (Qcw _) (Qmo _) rfl, e2, show 4 * (i + 1) + 4 = 4 * (i + 1 + 1) by omega]
   have hs2 : List.modify (keyH i) 0 (fun fr => Qs fr 21 (.grow (4 * (i + 1)))) = keyH (i + 1) := by cases i <;> rfl
   generalize Qsg z i = S at *
   generalize keyH i = K at *
   simp only [Qn, Qg, Qf, Ql, Qa, Qc, nov, gd, rho, Qd, wr, Nat.reduceAdd, Nat.reduceSub, if_true, if_false, reduceIte, reduceCtorEq, Qi, Int.reduceBEq, Int.reduceBNe, Int.reduceLT, Int.reduceLE, ↓Qh, ta, new, Qb, hset, Qu, Qs, Qp, Nat.reduceLT, Nat.reduceEqDiff, splice, zerosN, Qo, Qr, Qk, V.pure, Nat.reduceMul, Nat.reduceLeDiff, Qq, c1, ix, cv, hm2', mt, Yg, ap, hs2, w1, Tryz.underlying26]
   exact W.done ⟨i + 1, rfl, rfl, h, by omega⟩
 . have hi4 : i = 4 := by omega
   subst hi4
   have c1 : decide (((4 : Nat) : Int) < 4) = false := rfl
   simp only [Qn, Qg, Qf, Ql, Qa, Qc, nov, gd, rho, Qd, wr, Nat.reduceAdd, Nat.reduceSub, if_true, if_false, reduceIte, reduceCtorEq, Qi, Int.reduceBEq, Int.reduceBNe, Int.reduceLT, Int.reduceLE, ↓Qh, ta, new, Qb, hset, Qu, Qs, Qp, Nat.reduceLT, Nat.reduceEqDiff, splice, zerosN, Qo, Qr, Qk, V.pure, Nat.reduceMul, Nat.reduceLeDiff, Qq, c1]
   refine W.done ?_
   simp only [Qn, Qg, Qf, Ql, Qa, Qc, nov, gd, rho, Qd, wr, Nat.reduceAdd, Nat.reduceSub, if_true, if_false, reduceIte, reduceCtorEq, Qi, Int.reduceBEq, Int.reduceBNe, Int.reduceLT, Int.reduceLE, ↓Qh, ta, new, Qb, hset, Qu, Qs, Qp, Nat.reduceLT, Nat.reduceEqDiff, splice, zerosN, Qo, Qr, Qk, V.pure, Nat.reduceMul, Nat.reduceLeDiff, Qq]
   refine W.done (End.ret (v := Qsg z 4) rfl ⟨_, rfl, ?_⟩)
   rw [Qae rfl]
   exact Q5k rfl 10
theorem Q8i (ys : List V) (v : V) (h : kKey ys = some v) : FzN Tryz.prog Qz 136 ys v := by
 unfold kKey at h
 split at h
 case h_2 => cases h
 rename_i x
 split at h
 case h_2 => cases h
 rename_i c hc
 cases h
 obtain ⟨l, rfl, hb, hl⟩ := Qf0 hc
 obtain ⟨r, H, e1, v0, rfl, e2⟩ := key_cw x l hb hl
 have e : keyC (Quz (Qj l)) = Qj (Qvb (Qfv l) 4) := by
  rw [Qzi]
  simp only [keyC, Qvb, Qm6, Bx, Zlf, wi]
  rfl
 rw [e]
 exact ⟨_, _, e1, e2⟩
end
section
set_option maxRecDepth 100000
open Go.AM
attribute [local irreducible] U W
theorem Qrd {x y : Operand} (p q : Ke) : Zz Tryz.prog .eql 31 x y (.agg p.cells) (.agg q.cells) = some (.bool (decide (p = q))) := by
 have hg : (Tryz.prog).eqGuardType (Tryz.prog).depth 31 = false := by kernel_rfl
 have hs : (Tryz.prog).stoodInHeld 31 = false := by kernel_rfl
 obtain ⟨p1, p2, p3, p4, p5⟩ := p
 obtain ⟨q1, q2, q3, q4, q5⟩ := q
 have e : decide ((⟨p1, p2, p3, p4, p5⟩ : Ke) = ⟨q1, q2, q3, q4, q5⟩) = (p1 == q1 && (p2 == q2 && (p3 == q3 && (p4 == q4 && p5 == q5)))) := by
  rw [Bool.eq_iff_iff]; simp
 rw [e]
 simp only [Ke.cells, Zz, Qju, Tryz.underlying31, hg, eqV, hs, Qbs, Qa6, Tryz.underlying3, Tryz.underlying27, sz3, Qr3, Qk3, Qti]
 have n1 : ("At" = "_") = False := by decide
 have n2 : ("Birth" = "_") = False := by decide
 have n3 : ("Iv" = "_") = False := by decide
 have n4 : ("Tag" = "_") = False := by decide
 have n5 : ("Sum" = "_") = False := by decide
 simp only [n1, n2, n3, n4, n5, if_false, Ziw, List.getElem?_cons_zero, List.getElem?_cons_succ, if_true]
 cases p1 == q1 <;> cases p2 == q2 <;> cases p3 == q3 <;> cases p4 == q4 <;> cases p5 == q5 <;> rfl
theorem Qb7 (p : Ke) : Fz Tryz.prog Qz 79 [.agg p.cells] fun x => x = .int .i64 (okE (Qgp p)) := by
 refine Js Tryz.func79 rfl ?_
 have e0 : ∀ x y, Zz Tryz.prog .eql 31 x y (.agg p.cells) (.agg Qdp.cells) = _ := fun x y => Qrd p Qdp
 obtain ⟨a, b, c, d, e⟩ := p
 simp only [Ke.cells, Qdp] at e0
 simp only [Ke.cells]
 simp only [Qn, Qg, Qf, Ql, Qa, Qc, nov, gd, rho, Qd, wr, Nat.reduceAdd, Nat.reduceSub, if_true, if_false, reduceIte, reduceCtorEq, Qi, Int.reduceBEq, Int.reduceBNe, Int.reduceLT, Int.reduceLE, ↓Qh, Tryz.ntmps79, ta, new, Qb, hset, Qu, Qs, Qp, Nat.reduceLT, Nat.reduceEqDiff, splice, zerosN, Qo, Qr, Qk, V.pure, Nat.reduceMul, Nat.reduceLeDiff, Qq, e0]
 repeat' ((first | refine W.guardF ?_ ?_ | refine W.guardT ?_ ?_ | refine W.guardXF ?_ ?_ | refine W.guardXT ?_ ?_ | refine W.ite ?_ ?_ | refine W.opsK1 (by kernel_rfl) ?_) <;> intro h <;> simp only [Qn, Qg, Qf, Ql, Qa, Qc, nov, gd, rho, Qd, wr, Nat.reduceAdd, Nat.reduceSub, if_true, if_false, reduceIte, reduceCtorEq, Qi, Int.reduceBEq, Int.reduceBNe, Int.reduceLT, Int.reduceLE, ↓Qh, h, ta, new, Qb, hset, Qu, Qs, Qp, Nat.reduceLT, Nat.reduceEqDiff, splice, zerosN, Qo, Qr, Qk, V.pure, Nat.reduceMul, Nat.reduceLeDiff, Qq])
 all_goals refine W.done (Zv.ret rfl rfl ?_)
 all_goals first | rfl | (simp only [okE, Qgp, Q2k, Qdp, *, Jt, if_true, if_false]; try rfl)
/-! ### Numbers held against each other -/
theorem Qug (a : Int) : Fz Tryz.prog Qz 188 [.int .i64 a] fun x => x = .bool false := by
 refine Js Tryz.func188 rfl ?_
 have e : (a != a) = false := by simp
 simp only [Qn, Qg, Qf, Ql, Qa, Qc, nov, gd, rho, Qd, wr, Nat.reduceAdd, Nat.reduceSub, if_true, if_false, reduceIte, reduceCtorEq, Qi, Int.reduceBEq, Int.reduceBNe, Int.reduceLT, Int.reduceLE, ↓Qh, Tryz.ntmps188, ta, new, Qb, hset, Qu, Qs, Qp, Nat.reduceLT, Nat.reduceEqDiff, splice, zerosN, Qo, Qr, Qk, V.pure, Nat.reduceMul, Nat.reduceLeDiff, Qq, e]
 exact W.done (Zv.ret rfl rfl rfl)
theorem Ky (a b : Int) : Fz Tryz.prog Qz 134 [.int .i64 a, .int .i64 b] fun x => x = .int .i64 (B8 a b) := by
 refine Js Tryz.func134 rfl ?_
 obtain ⟨m, rfl, hm⟩ := (Qug a).op (by rfl) rfl
 have hm1 : ∀ s H, _ := fun s H => hm 134 0 s H rfl
 obtain ⟨m, rfl, hm⟩ := (Qug b).op (by rfl) rfl
 have hm2 : ∀ s H, _ := fun s H => hm 134 0 s H rfl
 simp only [Qn, Qg, Qf, Ql, Qa, Qc, nov, gd, rho, Qd, wr, Nat.reduceAdd, Nat.reduceSub, if_true, if_false, reduceIte, reduceCtorEq, Qi, Int.reduceBEq, Int.reduceBNe, Int.reduceLT, Int.reduceLE, ↓Qh, Tryz.ntmps134, ta, new, Qb, hset, Qu, Qs, Qp, Nat.reduceLT, Nat.reduceEqDiff, splice, zerosN, Qo, Qr, Qk, V.pure, Nat.reduceMul, Nat.reduceLeDiff, Qq, hm1, hm2]
 repeat' ((first | refine W.guardF ?_ ?_ | refine W.guardT ?_ ?_ | refine W.guardXF ?_ ?_ | refine W.guardXT ?_ ?_ | refine W.ite ?_ ?_ | refine W.opsK1 (by kernel_rfl) ?_) <;> intro h <;> simp only [Qn, Qg, Qf, Ql, Qa, Qc, nov, gd, rho, Qd, wr, Nat.reduceAdd, Nat.reduceSub, if_true, if_false, reduceIte, reduceCtorEq, Qi, Int.reduceBEq, Int.reduceBNe, Int.reduceLT, Int.reduceLE, ↓Qh, h, ta, new, Qb, hset, Qu, Qs, Qp, Nat.reduceLT, Nat.reduceEqDiff, splice, zerosN, Qo, Qr, Qk, V.pure, Nat.reduceMul, Nat.reduceLeDiff, Qq])
 all_goals refine W.done (Zv.ret rfl rfl ?_)
 all_goals first | rfl | (simp only [B8, *, Jt, if_true, if_false]; try rfl)
theorem or_fz (v : V) (l : List Int) (hv : Ba v l) (hl : l.length <= 1000) : Fz Tryz.prog Qz 135 [v] fun x => x = .int .i64 (Qkx l) := by
 refine Js Tryz.func135 rfl ?_
 have len := hv.len Tryz.underlying32
 simp only [Qn, Qg, Qf, Ql, Qa, Qc, nov, gd, rho, Qd, wr, Nat.reduceAdd, Nat.reduceSub, if_true, if_false, reduceIte, reduceCtorEq, Qi, Int.reduceBEq, Int.reduceBNe, Int.reduceLT, Int.reduceLE, ↓Qh, Tryz.ntmps135, ta, new, Qb, hset, Qu, Qs, Qp, Nat.reduceLT, Nat.reduceEqDiff, splice, zerosN, Qo, Qr, Qk, V.pure, Nat.reduceMul, Nat.reduceLeDiff, Qq, len]
 refine W.ul ?_
 refine W.loopS (kt := [3, 6, 7, 8]) rfl (fun i : Nat => Qye (.int .i64 0) v (.int .i64 l.length) (.int .i64 i)) (fun _ => [[]]) (fun i => i <= l.length /\ Qkx (l.drop i) = Qkx l) (fun i => l.length - i) ?_ 0 ⟨by omega, rfl⟩ rfl rfl
 rintro i ⟨hi, hR⟩
 simp only [Qye]
 by_cases h : i < l.length
 . have c1 : decide ((i : Int) < l.length) = true := Zlq (by omega)
   have at1 := hv.at (k := .i64) Tryz.underlying32 sz3 (by decide) (i := (i : Int)) (by omega) (by omega)
   have g1 : (Q3 l)[(i : Int).toNat * 1]? = some (.int .i64 l[i]) := by simp [h, Q3]
   have g1' : (Q3 l)[(i : Int).toNat]? = some (.int .i64 l[i]) := by simp [h, Q3]
   have w1 : (IntKind.i64).wrap ((i : Int) + 1) = ((i + 1 : Nat) : Int) := by rw [wrap_i64] <;> omega
   have hd : Qkx (l.drop i) = if l[i] != 0 then l[i] else Qkx (l.drop (i + 1)) := by rw [Zlh h]; rfl
   simp only [Qn, Qg, Qf, Ql, Qa, Qc, nov, gd, rho, Qd, wr, Nat.reduceAdd, Nat.reduceSub, if_true, if_false, reduceIte, reduceCtorEq, Qi, Int.reduceBEq, Int.reduceBNe, Int.reduceLT, Int.reduceLE, ↓Qh, c1, at1, rd3, g1, g1', ta, new, Qb, hset, Qu, Qs, Qp, Nat.reduceLT, Nat.reduceEqDiff, splice, zerosN, Qo, Qr, Qk, V.pure, Nat.reduceMul, Nat.reduceLeDiff, Qq]
   refine W.ite ?_ ?_ <;> intro h2 <;> simp only [Qn, Qg, Qf, Ql, Qa, Qc, nov, gd, rho, Qd, wr, Nat.reduceAdd, Nat.reduceSub, if_true, if_false, reduceIte, reduceCtorEq, Qi, Int.reduceBEq, Int.reduceBNe, Int.reduceLT, Int.reduceLE, ↓Qh, ta, new, Qb, hset, Qu, Qs, Qp, Nat.reduceLT, Nat.reduceEqDiff, splice, zerosN, Qo, Qr, Qk, V.pure, Nat.reduceMul, Nat.reduceLeDiff, Qq, w1]
   . refine W.done ?_
     simp only [Qn, Qg, Qf, Ql, Qa, Qc, nov, gd, rho, Qd, wr, Nat.reduceAdd, Nat.reduceSub, if_true, if_false, reduceIte, reduceCtorEq, Qi, Int.reduceBEq, Int.reduceBNe, Int.reduceLT, Int.reduceLE, ↓Qh]
     refine W.done (Zv.ret rfl rfl ?_)
     rw [<- hR, hd, h2]; rfl
   . refine W.done ⟨i + 1, rfl, rfl, ⟨by omega, ?_⟩, by omega⟩
     rw [<- hR, hd, h2]; rfl
 . have c1 : decide ((i : Int) < l.length) = false := Zlr (by omega)
   simp only [Qn, Qg, Qf, Ql, Qa, Qc, nov, gd, rho, Qd, wr, Nat.reduceAdd, Nat.reduceSub, if_true, if_false, reduceIte, reduceCtorEq, Qi, Int.reduceBEq, Int.reduceBNe, Int.reduceLT, Int.reduceLE, ↓Qh, c1]
   refine W.done ?_
   simp only [Qn, Qg, Qf, Ql, Qa, Qc, nov, gd, rho, Qd, wr, Nat.reduceAdd, Nat.reduceSub, if_true, if_false, reduceIte, reduceCtorEq, Qi, Int.reduceBEq, Int.reduceBNe, Int.reduceLT, Int.reduceLE, ↓Qh]
   refine W.done (Zv.ret rfl rfl ?_)
   rw [<- hR, Zkz (by omega)]; rfl
theorem Qq1 (p q : Ke) : Fz Tryz.prog Qz 187 [.agg p.cells, .agg q.cells] fun x => x = .int .i64 (B8 p.at_ q.at_) := by
 refine Js Tryz.func187 rfl ?_
 obtain ⟨a, b, c, d, e⟩ := p
 obtain ⟨a', b', c', d', e'⟩ := q
 simp only [Ke.cells]
 obtain ⟨m, rfl, hm⟩ := (Ky a a').op (by rfl) rfl
 have hm1 : ∀ s H, _ := fun s H => hm 187 0 s H rfl
 simp only [Qn, Qg, Qf, Ql, Qa, Qc, nov, gd, rho, Qd, wr, Nat.reduceAdd, Nat.reduceSub, if_true, if_false, reduceIte, reduceCtorEq, Qi, Int.reduceBEq, Int.reduceBNe, Int.reduceLT, Int.reduceLE, ↓Qh, Tryz.ntmps187, ta, new, Qb, hset, Qu, Qs, Qp, Nat.reduceLT, Nat.reduceEqDiff, splice, zerosN, Qo, Qr, Qk, V.pure, Nat.reduceMul, Nat.reduceLeDiff, Qq, hm1]
 exact W.done (Zv.ret rfl rfl rfl)
end
end Go.Proofs.YtafhcdagifopeaaGreatDoor
