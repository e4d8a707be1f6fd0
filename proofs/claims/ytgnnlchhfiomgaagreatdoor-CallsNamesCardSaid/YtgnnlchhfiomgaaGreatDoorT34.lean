/- This file holds in one the texts DW, DP, DQ, DR, E1, E2; each says at its head what it proves. -/
import Derived.Test.YtgnnlchhfiomgaaGreatDoorT20
import Derived.Test.YtgnnlchhfiomgaaGreatDoorT27
import Derived.Test.YtgnnlchhfiomgaaGreatDoorT28
import Derived.Test.YtgnnlchhfiomgaaGreatDoorT29
import Derived.Test.YtgnnlchhfiomgaaGreatDoorT30
import Derived.Test.YtgnnlchhfiomgaaGreatDoorT31
import Derived.Test.YtgnnlchhfiomgaaGreatDoorT33
set_option linter.unusedSimpArgs false
set_option linter.unusedVariables false
namespace Go.Proofs.YtgnnlchhfiomgaaGreatDoor
section
set_option maxRecDepth 100000
open Go.AM Go.AM.BM
attribute [local irreducible] U W
def Qo0 (a : Nat -> Int) (dv : Nat -> V) : Nat -> List V -> List V
 | 0, rv => rv
 | i + 1, rv => (Qo0 a dv i rv).set (a i).toNat (dv i)
theorem Qlw (a : Nat -> Int) (dv : Nat -> V) : ∀ (n : Nat) (rv : List V), Qo0 a dv (n + 1) rv = Qo0 (fun j => a (j + 1)) (fun j => dv (j + 1)) n (rv.set (a 0).toNat (dv 0))
 | 0, rv => rfl
 | n + 1, rv => by
   show (Qo0 a dv (n + 1) rv).set _ _ = _
   rw [Qlw a dv n rv]; rfl
theorem Qj9 (a : Nat -> Int) (dv : Nat -> V) : ∀ (n : Nat) (rv : List V), (Qo0 a dv n rv).length = rv.length
 | 0, _ => rfl
 | n + 1, rv => by rw [Qo0, Zl8, Qj9 a dv n rv]
theorem Qua (a : Nat -> Int) (dv : Nat -> V) : ∀ (n : Nat) (rv : List V) (x : V), x ∈ Qo0 a dv n rv -> x ∈ rv \/ ∃ j, j < n /\ x = dv j
 | 0, _, x, h => .inl h
 | n + 1, rv, x, h => by
   rcases List.mem_or_eq_of_mem_set h with h | rfl
   . rcases Qua a dv n rv x h with h | ⟨j, hj, e⟩
     . exact .inl h
     . exact .inr ⟨j, by omega, e⟩
   . exact .inr ⟨n, by omega, rfl⟩
def waV (cs : List V) (j : Nat) : V := cs.getD (2 * j + 1) .bad
theorem Qec : ∀ (n : Nat) (cs rv : List V), Qck cs = true -> cs.length = n * 2 -> Qd0 cs rv = Qo0 (waA cs) (waV cs) n rv
 | 0, cs, rv, _, h => by
   have : cs = [] := List.length_eq_zero_iff.1 (by omega)
   subst this; rfl
 | n + 1, [], rv, _, h => by simp at h
 | n + 1, [x], rv, _, h => by simp at h; omega
 | n + 1, x :: v :: r, rv, h, hl => by
   unfold Qck at h
   split at h
   . rename_i e; cases e
   . rename_i a v' r' e
     cases e
     simp only [Zki] at h
     have ih := Qec n r (rv.set a.toNat v) h.2 (by simp only [Zj9] at hl; omega)
     show Qd0 r (rv.set a.toNat v) = _
     rw [ih, Qlw]
     have e1 : (fun j => waA (.int .i64 a :: v :: r) (j + 1)) = waA r := by
      funext j
      simp only [waA]
      rw [show 2 * (j + 1) = 2 * j + 1 + 1 by omega, List.getD_cons_succ, List.getD_cons_succ]
     have e2 : (fun j => waV (.int .i64 a :: v :: r) (j + 1)) = waV r := by
      funext j
      simp only [waV]
      rw [show 2 * (j + 1) + 1 = 2 * j + 1 + 1 + 1 by omega, List.getD_cons_succ, List.getD_cons_succ]
     rw [e1, e2]; rfl
   . cases h
theorem Qqj : ∀ (L : List (Int × V)) (k : Int) (v : V), (k, v) ∈ Qab L k v
 | [], k, v => by simp [Qab]
 | (k', v') :: r, k, v => by
   simp only [Qab]
   split
   . simp
   . exact Zkg _ (Qqj r k v)
theorem Qqo : ∀ (L : List (Int × V)) (k : Int) (v : V) (x : Int × V), x.1 ≠ k -> x ∈ L -> x ∈ Qab L k v
 | (k', v') :: r, k, v, x, hx, h => by
   simp only [Qab]
   rcases Zke.1 h with rfl | h
   . rw [if_neg (fun e => hx e.symm)]; simp
   . split
     . exact Zkg _ h
     . exact Zkg _ (Qqo r k v x hx h)
def Qeo (L : List (Int × V)) (rv : List V) : List V := Z7 L (List.range L.length) rv
theorem Qg7 {L : List (Int × V)} (hn : (L.map Prod.fst).Nodup) (h0 : ∀ x ∈ L, 0 <= x.1) {x : Int × V} (hx : x ∈ L) {rv : List V} (hl : x.1.toNat < rv.length) : (Qeo L rv)[x.1.toNat]? = some x.2 := by
 obtain ⟨b, hb⟩ := Zk3.1 hx
 exact Qd8 L (fun b c k v w h1 h2 => Ql0 hn b c k v w h1 h2) (fun b k v h => h0 _ (List.mem_of_getElem? h)) (k := x.1) (v := x.2) hb _ rv (Zlm.2 (Zk2.1 hb).1) hl
theorem Qj4 {L : List (Int × V)} {i : Nat} (h : ∀ x ∈ L, x.1.toNat ≠ i) (rv : List V) : (Qeo L rv)[i]? = rv[i]? :=
 Qas L i _ rv fun b _ k v hb => h _ (List.mem_of_getElem? hb)
theorem Qwb {L : List (Int × V)} (hn : (L.map Prod.fst).Nodup) (h0 : ∀ x ∈ L, 0 <= x.1 /\ x.1 < 256) (k : Int) (v : V) (k0 : 0 <= k) (k1 : k < 256) (rv : List V) (hl : rv.length = 256) : Qeo (Qab L k v) rv = (Qeo L rv).set k.toNat v := by
 have hn2 := Qhm L k v hn
 have h2 : ∀ x ∈ Qab L k v, 0 <= x.1 := fun x hx => by
  rcases Qfy _ _ _ _ hx with rfl | hx
  . exact k0
  . exact (h0 x hx).1
 have la : (Qeo L rv).length = 256 := by rw [Qeo, Qao, hl]
 apply Zk9
 intro i
 by_cases hi : i = k.toNat
 . subst hi
   have := Qg7 hn2 h2 (Qqj L k v) (rv := rv) (by show k.toNat < _; omega)
   rw [Zlv, if_pos rfl, if_pos (by omega)]
   exact this
 . rw [Zlv, if_neg (fun e => hi e.symm)]
   by_cases hx : ∃ x ∈ L, x.1.toNat = i
   . obtain ⟨x, hx, rfl⟩ := hx
     have hk : x.1 ≠ k := fun e => hi (by rw [e])
     have b := h0 x hx
     rw [Qg7 hn2 h2 (Qqo L k v x hk hx) (by omega), Qg7 hn (fun x hx => (h0 x hx).1) hx (by omega)]
   . have hm : ∀ x ∈ L, x.1.toNat ≠ i := fun x hx' e => hx ⟨x, hx', e⟩
     rw [Qj4 hm, Qj4]
     intro x hx'
     rcases Qfy _ _ _ _ hx' with rfl | h
     . exact fun e => hi e.symm
     . exact hm x h
theorem Qqf (a : Nat -> Int) (dv : Nat -> V) (rv : List V) (hl : rv.length = 256) (n : Nat) (ha : ∀ j, j < n -> 0 <= a j /\ a j < 256) : ∀ i, i <= n -> Qo0 a dv i rv = Qeo (Kx a dv i) rv
 | 0, _ => rfl
 | i + 1, hi => by
   have q := ha i (by omega)
   show (Qo0 a dv i rv).set _ _ = Qeo (Qab (Kx a dv i) (a i) (dv i)) rv
   rw [Qwb (Qer a dv i) (fun x hx => ?_) (a i) (dv i) q.1 q.2 rv hl, Qqf a dv rv hl n ha i (by omega)]
   obtain ⟨j, hj, e⟩ := Qh0 a dv i x hx
   rw [e]; exact ha j (by omega)
theorem Q7j (l : List V) (h : ∀ x ∈ l, ∃ c f, x = .iS c 256 f /\ J4 c) (hl : l.length = 256) :
 (∀ i, i < 256 -> ∃ f, l[i]? = some (.iS (Qoy (l.getD i .bad)) 256 f)) /\ ∀ i, i < 256 -> J4 (Qoy (l.getD i .bad)) := by
 have key : ∀ i, i < 256 -> ∃ c g, l[i]? = some (.iS c 256 g) /\ l.getD i .bad = .iS c 256 g /\ J4 c := fun i hi => by
  have hl : i < l.length := by omega
  obtain ⟨c, g, e, hr⟩ := h l[i] (List.getElem_mem hl)
  have e1 : l[i]? = some (.iS c 256 g) := by rw [Zjr hl, e]
  exact ⟨c, g, e1, by simp [List.getD, e1], hr⟩
 refine ⟨fun i hi => ?_, fun i hi => ?_⟩
 . obtain ⟨c, g, e1, e2, _⟩ := key i hi
   exact ⟨g, by rw [e1, e2]; rfl⟩
 . obtain ⟨c, g, _, e2, hr⟩ := key i hi
   rw [e2]; exact hr
theorem Qw4 {wv : V} {cs : List V} {n : Nat} (h : Qhd wv = some (cs, n)) : Qck cs = true := by
 cases wv with
 | nS => cases h; rfl
 | iS xs m f =>
   simp only [Qhd] at h
   split at h
   case isFalse => cases h
   rename_i hc
   cases h
   simp only [Zki] at hc
   exact hc.2
 | _ => cases h
theorem Q3v (ys : List V) (v : V) (h : Qy1 168 ys = some v) : Fz Tryz.prog Qz 30 ys (· = v) := by
 unfold Qy1 at h
 split at h
 case h_2 => cases h
 rename_i bv wv sv
 split at h
 case isFalse => cases h
 rename_i hfn
 split at h
 case h_2 => cases h
 rename_i rv cs n hb hw
 split at h
 case isFalse => cases h
 rename_i hc
 cases h
 have hsr : ∀ p, sv.refs p = false := fun p => by
  unfold isFn at hfn
  split at hfn
  . rfl
  . rfl
  . rfl
  . cases hfn
 have hso : sv = .func (.func 168) [] [] \/ n = 0 := by
  rcases Bool.or_eq_true_iff.1 hc with h | h
  . left
    unfold isAll at h
    split at h
    . cases Zmb h; rfl
    . cases h
  . exact .inr (Zmb h)
 obtain ⟨fl, rfl, h1, h2, h3⟩ := Qg8 hb
 obtain ⟨w1, w2, w3, w4, w5⟩ := Qi9 hw
 have wok := Qw4 hw
 have wv3 : ∀ j, j < n -> ∃ c f, waV cs j = .iS c 256 f /\ J4 c /\ cs[2 * j + 1]? = some (waV cs j) := fun j hj => by
  obtain ⟨_, f, e⟩ := w3 j hj
  have e2 : waV cs j = .iS (waD cs j) 256 f := by simp [waV, List.getD, e]
  exact ⟨_, f, e2, w5 j hj, by rw [e2]; exact e⟩
 have eA : Qd0 cs rv = Z7 (Kx (waA cs) (waV cs) n) (List.range (Kx (waA cs) (waV cs) n).length) rv := by
  rw [Qec n cs rv wok w1.1, Qqf (waA cs) (waV cs) rv h1 n w4 n (Zjw n)]; rfl
 have hl2 : (Qd0 cs rv).length = 256 := by rw [Qec n cs rv wok w1.1, Qj9, h1]
 have hm : ∀ x ∈ Qd0 cs rv, ∃ c f, x = .iS c 256 f /\ J4 c := fun x hx => by
  rw [Qec n cs rv wok w1.1] at hx
  rcases Qua _ _ n rv x hx with hx | ⟨j, hj, rfl⟩
  . obtain ⟨i, hi⟩ := Zk3.1 hx
    have hi2 : i < 256 := by rw [<- h1]; exact (Zk2.1 hi).1
    obtain ⟨f, e⟩ := h2 i hi2
    have := h3 i hi2
    rw [hi] at e
    cases e
    exact ⟨_, f, rfl, this⟩
  . obtain ⟨c, f, e, hc, _⟩ := wv3 j hj
    exact ⟨c, f, e, hc⟩
 obtain ⟨r1, r2⟩ := Q7j _ hm hl2
 have e3 := Qm3 (Qd0 cs rv) [] 0 hl2 rfl (fun j hj => by omega)
 rw [<- e3]
 exact Q8a rv fl _ h1 h2 h3 wv cs n w1 w2 (waA cs) (waV cs) (fun j hj => ⟨(w3 j hj).1, by obtain ⟨_, _, _, _, e⟩ := wv3 j hj; exact e⟩) w4 (fun j hj => by obtain ⟨c, f, e, hc, _⟩ := wv3 j hj; exact ⟨c, f, e, hc⟩) (fun i => Qoy ((Qd0 cs rv).getD i .bad)) (fun i hi => by rw [<- eA]; exact r1 i hi) r2 sv hso hsr
end
section
set_option maxRecDepth 100000
open Go.AM Go.AM.BM
attribute [local irreducible] U W
def leB (n : Nat) : Nat -> List UInt8
 | 0 => []
 | i + 1 => leB n i ++ [UInt8.ofNat (n / 256 ^ i)]
theorem Qn2 (n : Nat) : ∀ i, (leB n i).length = i
 | 0 => rfl
 | i + 1 => by simp [leB, Qn2 n i]
def Qs3 (n : Nat) : Nat -> V
 | 0 => .nS
 | i + 1 => .gS 0 31 (Qj (leB n (i + 1))) (i + 1) 1
def Qrh : Nat -> AM.Heap
 | 0 => [[]]
 | i + 1 => [[(31, .grow (i + 1))]]
def Qoa (n k : Nat) : V := if !(decide (0 < k) && decide (k <= 4)) || decide (256 ^ k <= n) then .tuple [.nS, .int .i64 2] else .tuple [.iS (Qj (leB n k)) k false, .int .i64 0]
theorem Qhi (g : Get) (m : Nat) : ∀ l : List UInt8, Zb (frzN g (m + 1)) (Qj l) = some (Qj l)
 | [] => rfl
 | b :: l => by
   have := Qhi g m l
   simp only [Qj, Zkd] at this ⊢
   exact Qt rfl this
theorem put_cw (n k : Nat) (hn : n <= 281474976710656) (hk : k <= 4294967296) : CW Tryz.prog Qz 106 [.int .i64 n, .int .i64 k] [] fun r H => ∃ v0, r = .ret v0 /\ frzN (Qb H) depth v0 = some (Qoa n k) /\ frz (Qb H) depth v0 = some (Qoa n k) := by
 refine Xr Tryz.func106 rfl ?_
 obtain ⟨m, rfl, hm⟩ := (Qvu k).op (by rfl) rfl
 have hm' : ∀ s H, _ := fun s H => hm 106 0 s H rfl
 have c0 : decide ((n : Int) < 0) = false := by simp
 have err : ∀ (T : List V), T.getD 4 .bad = .nS -> T.getD 5 .bad = .int .i64 2 -> Qoa n k = .tuple [.nS, .int .i64 2] -> AM.End Tryz.prog Tryz.f106 0 (fun r H => ∃ v0, r = .ret v0 /\ frzN (Qb H) depth v0 = some (Qoa n k) /\ frz (Qb H) depth v0 = some (Qoa n k)) .ret T [[]] := by
  intro T h1 h2 h3
  refine End.ret (v := .tuple [.nS, .int .i64 2]) ?_ ⟨_, rfl, by rw [h3]; rfl, by rw [h3]; rfl⟩
  show (match Qe6 Tryz.prog T [[]] [.tmp 4, .tmp 5] with | some [v] => some v | some vs => some (V.tuple vs) | none => none) = _
  simp only [Qe6, Bn, h1, h2]
 cases hs : (decide (0 < k) && decide (k <= 4)) with
 | false =>
   rw [hs] at hm'
   simp only [Qn, Qf, Qg, Ql, Qa, Qc, nov, gd, rho, Qe, wr, simprocAttr, Qi, ↓Qh, Tryz.ntmps106, ta, new, Qb, hset, Qu, Qs, Qp, splice, zerosN, Qo, Qq, Qk, V.pure, Qr, hm']
   refine W.done (err _ rfl rfl ?_)
   simp [Qoa, hs]
 | true =>
   rw [hs] at hm'
   have hk4 : 0 < k /\ k <= 4 := by simpa using hs
   have m8 : (IntKind.i64).wrap (8 * (k : Int)) = ((8 * k : Nat) : Int) := by rw [wrap_i64] <;> omega
   have sh : ∀ p q, Zz Tryz.prog .shl 3 p q (.int .i64 1) (.int .i64 ((8 * k : Nat) : Int)) = some (.int .i64 ((256 ^ k : Nat) : Int)) := fun p q => by
    obtain ⟨h1, h2⟩ := hk4
    have : k = 1 \/ k = 2 \/ k = 3 \/ k = 4 := by omega
    rcases this with rfl | rfl | rfl | rfl <;> rfl
   have cg : decide ((n : Int) >= ((256 ^ k : Nat) : Int)) = decide (256 ^ k <= n) := by simp only [ge_iff_le, Int.ofNat_le]
   simp only [Qn, Qf, Qg, Ql, Qa, Qc, nov, gd, rho, Qe, wr, simprocAttr, Qi, ↓Qh, Tryz.ntmps106, ta, new, Qb, hset, Qu, Qs, Qp, splice, zerosN, Qo, Qq, Qk, V.pure, Qr, hm', c0, m8, sh, cg]
   refine W.ite (fun h => ?_) (fun h => ?_)
   . simp only [Qn, Qf, Qg, Ql, Qa, Qc, nov, gd, rho, Qe, wr, simprocAttr, Qi, ↓Qh]
     refine W.done (err _ rfl rfl ?_)
     simp only [decide_eq_true_eq] at h
     simp [Qoa, hs, h]
   . have hv : Qoa n k = .tuple [.iS (Qj (leB n k)) k false, .int .i64 0] := by
      simp only [Qoa, hs, h]; rfl
     rw [hv]
     simp only [Qn, Qf, Qg, Ql, Qa, Qc, nov, gd, rho, Qe, wr, simprocAttr, Qi, ↓Qh, ta, new, Qb, hset, Qu, Qs, Qp, splice, zerosN, Qo, Qq, Qk, V.pure, Qr]
     refine W.ul ?_
     refine W.loopS (kt := [0, 1, 6]) rfl (fun i : Nat => Qy3 (.int .i64 ((n / 256 ^ i : Nat) : Int)) (.int .i64 k) (Qs3 n i)) Qrh (fun i => i <= k) (fun i => k - i) ?_ 0 (Nat.zero_le _) (by simp only [Nat.pow_zero, Nat.div_one]; rfl) rfl
     intro i hi
     simp only [Qy3]
     have len : ∀ g, Y5 Tryz.prog g 26 (Qs3 n i) = some (.int .i64 (i : Nat)) := fun g => by
      cases i with
      | zero => exact Qei Tryz.underlying26
      | succ i => exact len_g Tryz.underlying26 g
     by_cases h2 : i < k
     . have c1 : decide ((i : Int) < k) = true := by simp only [decide_eq_true_eq]; omega
       generalize hN : n / 256 ^ i = N
       have hNn : N <= n := by rw [<- hN]; exact Nat.div_le_self _ _
       have cv : ∀ g, convertV Tryz.prog g 3 5 (.int .i64 N) = some (.val (.int .u8 ((UInt8.ofNat N).toNat : Nat)) none) := fun g => by
        simp only [convertV, Tryz.underlying3, Tryz.underlying5]
        have : (IntKind.u8).wrap (N : Int) = ((UInt8.ofNat N).toNat : Int) := by
         rw [IntKind.wrap_u8, UInt8.toNat_ofNat']; omega
        simp only [this]
       have q : ∀ x y, Zz Tryz.prog .quo 3 x y (.int .i64 N) (.int .i64 256) = some (.int .i64 ((N / 256 : Nat) : Int)) := fun x y => by
        have e : (N : Int).tdiv 256 = ((N / 256 : Nat) : Int) := by
         rw [Int.tdiv_eq_ediv_of_nonneg (by omega)]; omega
        have w : (IntKind.i64).wrap ((N / 256 : Nat) : Int) = ((N / 256 : Nat) : Int) := by rw [wrap_i64] <;> omega
        show some (V.int .i64 ((IntKind.i64).wrap ((N : Int).tdiv 256))) = _
        rw [e, w]
       have ap : Zl Tryz.prog (Qz.mt 106) 0 (Qb (Qrh i)) (some 31) 26 26 (Qs3 n i) (.iS [.int .u8 ((UInt8.ofNat N).toNat : Nat)] 1 true) = some (.val (Qs3 n (i + 1)) (some (0, 31, .grow (i + 1)))) := by
        have mt : Qz.mt 106 31 = false := rfl
        have e2 : Qj (leB n (i + 1)) = Qj (leB n i) ++ [.int .u8 ((UInt8.ofNat N).toNat : Nat)] := by rw [leB, B3, hN]; rfl
        cases i with
        | zero =>
          rw [Qs3, Qs3, Qgh Tryz.underlying26 sz5 Qsn zc5 rfl Tryz.underlying26 (m := 1) (cs := [.int .u8 ((UInt8.ofNat N).toNat : Nat)]) rfl (by omega) (by decide), Qbs mt rfl rfl, e2]
          rfl
        | succ i =>
          rw [Qs3, Qs3, Qfw Tryz.underlying26 sz5 Qsn zc5 rfl Tryz.underlying26 (cs := [.int .u8 ((UInt8.ofNat N).toNat : Nat)]) (m := 1) rfl (by omega) (Qa0 (by omega) (by omega)) rfl rfl rfl, e2]
       have hs2 : List.modify (Qrh i) 0 (fun fr => Qs fr 31 (.grow (i + 1))) = Qrh (i + 1) := by cases i <;> rfl
       have mt : ∀ s, Qz.mt 106 s = false := fun s => rfl
       generalize Qs3 n i = S at *
       generalize Qrh i = K at *
       simp only [Qn, Qf, Qg, Ql, Qa, Qc, nov, gd, rho, Qe, wr, simprocAttr, Qi, ↓Qh, ta, new, Qb, hset, Qu, Qs, Qp, splice, zerosN, Qo, Qq, Qk, V.pure, Qr, len, c1, cv, q, mt, Yg, ap, hs2, Tryz.underlying26]
       refine W.done ⟨i + 1, ?_, rfl, h2, by omega⟩
       have : n / 256 ^ (i + 1) = N / 256 := by rw [Nat.pow_succ, <- Nat.div_div_eq_div_mul, hN]
       rw [this]; rfl
     . have hik : i = k := by omega
       subst hik
       have c1 : decide ((i : Int) < i) = false := by simp
       simp only [Qn, Qf, Qg, Ql, Qa, Qc, nov, gd, rho, Qe, wr, simprocAttr, Qi, ↓Qh, ta, new, Qb, hset, Qu, Qs, Qp, splice, zerosN, Qo, Qq, Qk, V.pure, Qr, len, c1]
       refine W.done ?_
       simp only [Qn, Qf, Qg, Ql, Qa, Qc, nov, gd, rho, Qe, wr, simprocAttr, Qi, ↓Qh, ta, new, Qb, hset, Qu, Qs, Qp, splice, zerosN, Qo, Qq, Qk, V.pure, Qr]
       obtain ⟨j, rfl⟩ : ∃ j, i = j + 1 := ⟨i - 1, by omega⟩
       refine W.done (End.ret (v := .tuple [.gS 0 31 (Qj (leB n (j + 1))) (j + 1) 1, .int .i64 0]) rfl ⟨_, rfl, ?_, ?_⟩) <;> rw [Qak rfl]
       . have fl : Zb (frzN (Qb (Qrh (j + 1))) 10) (Qj (leB n (j + 1))) = some (Qj (leB n (j + 1))) := Qhi _ _ _
         have f1 : frzN (Qb (Qrh (j + 1))) 11 (.gS 0 31 (Qj (leB n (j + 1))) (j + 1) 1) = some (.iS (Qj (leB n (j + 1))) (j + 1) false) := by
          show (if j + 1 = j + 1 then (Zb (frzN (Qb (Qrh (j + 1))) 10) (Qj (leB n (j + 1)))).map _ else none) = _
          rw [fl, if_pos rfl]; rfl
         show (Zb (frzN _ 11) [V.gS 0 31 (Qj (leB n (j + 1))) (j + 1) 1, .int .i64 0]).map _ = _
         rw [Qt f1 (Qt (y := .int .i64 0) rfl rfl)]; rfl
       . have f1 := Qwv (l := leB n (j + 1)) (f := 0) (s := 31) (n := j + 1) (e := 1) (Qb (Qrh (j + 1))) 9
         show (Zb (frz _ 11) [V.gS 0 31 (Qj (leB n (j + 1))) (j + 1) 1, .int .i64 0]).map _ = _
         rw [Qt f1 (Qt (y := .int .i64 0) rfl rfl)]; rfl
end
section
set_option maxRecDepth 100000
open Go.AM Go.AM.BM
attribute [local irreducible] U W
theorem slC_ok {x : V} {c : List V} {n : Nat} (h : slC x = some (c, n)) : Zn 1 x c n /\ n <= 1048576 := by
 cases x with
 | nS => cases h; exact ⟨Zn.nil, by decide⟩
 | iS xs m f =>
   simp only [slC] at h
   split at h
   case isFalse => cases h
   rename_i hc
   cases h
   simp only [Zki] at hc
   have e1 := Zmb hc.1
   have e2 := Zlt hc.2
   exact ⟨Zn.mk (by omega), e2⟩
 | _ => cases h
theorem Qyp : ∀ {c : List V} {m : Nat}, numC c = some m -> ∃ p : List UInt8, c = Qj p /\ Jx p = m
 | [], m, h => by cases h; exact ⟨[], rfl, rfl⟩
 | v :: r, m, h => by
   unfold numC at h
   split at h
   . rename_i e; cases e
   . rename_i b r' e
     cases e
     split at h
     case isFalse => cases h
     rename_i hb
     cases hr : numC r with
     | none => rw [hr] at h; cases h
     | some n =>
       rw [hr] at h; cases h
       obtain ⟨p, rfl, rfl⟩ := Qyp hr
       have hb' : b < 256 := by
        simp only [Nat.blt] at hb
        have := Zlt hb
        omega
       have e : (UInt8.ofNat b).toNat = b := by simp; omega
       refine ⟨UInt8.ofNat b :: p, ?_, ?_⟩
       . show V.int .u8 (Int.ofNat b) :: Qj p = V.int .u8 ((UInt8.ofNat b).toNat : Int) :: Qj p
         rw [e]; rfl
       . simp only [Jx, e]; rfl
   . cases h
theorem Qy5 {g : Get} {n : Nat} {v : V} {k : IntKind} {m : Int} (h : frz g n v = some (.int k m)) : v = .int k m := by
 cases n with
 | zero => cases h
 | succ n =>
   cases v with
   | int k' m' => simpa [frz] using h
   | mS f s o len cap esz =>
     simp only [frz] at h
     split at h
     . split at h
       . simp only [Zk7] at h; obtain ⟨_, _, h⟩ := h; cases h
       . cases h
     . cases h
   | ptr f s o =>
     simp only [frz] at h
     split at h
     . simp only [Zk7] at h; obtain ⟨_, _, h⟩ := h; cases h
     . cases h
   | func fn a b =>
     simp only [frz] at h
     split at h <;> cases h
   | _ => first | (simp only [frz, Zk7] at h; obtain ⟨_, _, h⟩ := h; cases h) | (simp [frz] at h)
theorem Qnf {f : V -> Option V} {x : V} {l m : List V} (h : Zb f (x :: l) = some m) : ∃ y ys, f x = some y /\ Zb f l = some ys /\ m = y :: ys := by
 simp only [Zb] at h
 cases hx : f x with
 | none => rw [hx] at h; cases h
 | some y =>
   cases hl : Zb f l with
   | none => rw [hx, hl] at h; cases h
   | some ys => rw [hx, hl] at h; cases h; exact ⟨y, ys, rfl, rfl, rfl⟩
theorem Q3a {g : Get} {n : Nat} {v : V} {k l : IntKind} {a b : Int} (h : frz g n v = some (.tuple [.int k a, .int l b])) : v = .tuple [.int k a, .int l b] := by
 cases n with
 | zero => cases h
 | succ n =>
   cases v with
   | tuple cs =>
     simp only [frz, Zk7] at h
     obtain ⟨ds, h, e⟩ := h
     cases e
     cases cs with
     | nil => cases h
     | cons x cs =>
       obtain ⟨y, ys, h1, h2, e⟩ := Qnf h
       cases e
       cases cs with
       | nil => cases h2
       | cons z cs =>
         obtain ⟨y', ys', h3, h4, e⟩ := Qnf h2
         cases e
         cases cs with
         | nil => rw [Qy5 h1, Qy5 h3]
         | cons w cs =>
           obtain ⟨_, _, _, _, e⟩ := Qnf h4
           cases e
   | mS f s o len cap esz =>
     simp only [frz] at h
     split at h
     . split at h
       . simp only [Zk7] at h; obtain ⟨_, _, h⟩ := h; cases h
       . cases h
     . cases h
   | ptr f s o =>
     simp only [frz] at h
     split at h
     . simp only [Zk7] at h; obtain ⟨_, _, h⟩ := h; cases h
     . cases h
   | func fn a b =>
     simp only [frz] at h
     split at h <;> cases h
   | _ => first | (simp only [frz, Zk7] at h; obtain ⟨_, _, h⟩ := h; cases h) | (simp [frz] at h)
theorem Qjv {f : FuncId} {args : List V} {k l : IntKind} {a b : Int} (h : Fz Tryz.prog Qz f args fun r => r = .tuple [.int k a, .int l b]) : FzN Tryz.prog Qz f args (.tuple [.int k a, .int l b]) := by
 obtain ⟨v, H', v', h1, h2, rfl⟩ := h
 obtain rfl := Q3a h2
 exact ⟨_, _, h1, rfl⟩
theorem beqF {a b : Nat} (h : Nat.beq a b = false) : a ≠ b := by
 intro e; subst e; simp at h
theorem bltT {a b : Nat} (h : Nat.blt a b = true) : a < b := by
 simp only [Nat.blt] at h
 have := Zlt h; omega
theorem bltF {a b : Nat} (h : Nat.blt a b = false) : b <= a := by
 rcases Zjt a b with h2 | h2
 . have := Zma (show a + 1 <= b from h2)
   simp only [Nat.blt, this] at h; cases h
 . exact h2
theorem Q61 (ys : List V) (v : V) (h : kGet ys = some v) : FzN Tryz.prog Qz 169 ys v := by
 unfold kGet at h
 split at h
 case h_2 => cases h
 rename_i x a k
 split at h
 case h_2 => cases h
 rename_i c n hc
 obtain ⟨hs, hn⟩ := slC_ok hc
 split at h
 case isFalse => cases h
 rename_i hak
 simp only [Zki] at hak
 have ha := Zlt hak.1
 have hk := Zlt hak.2
 split at h
 . rename_i h1
   cases h
   have e : Qbm n a k [] = (0, 2) := by
    simp only [Zld] at h1
    rcases h1 with h1 | h1 | h1
    . have := Zmb h1
      simp [Qbm, this]
    . have := bltT h1
      have : ¬ k <= 4 := by omega
      simp [Qbm, this]
    . have := bltT h1
      simp [Qbm, this]
   have := Qjv (k := .i64) (l := .i64) (a := ((Qbm n a k []).1 : Nat)) (b := ((Qbm n a k []).2 : Nat)) (Qq1 x c n hs (by omega) a k (by omega) (by omega) [] (fun h2 h3 => by
    have : k = 0 := by
     simp only [Zld] at h1
     rcases h1 with h1 | h1 | h1
     . exact Zmb h1
     . have := bltT h1; omega
     . have := bltT h1; omega
    subst this; rw [List.take_zero]; rfl))
   rw [e] at this
   exact this
 . rename_i h1
   simp only [Zld, not_or, Bool.not_eq_true] at h1
   obtain ⟨h1, h2, h3⟩ := h1
   have k0 := beqF h1
   have k4 := bltF h2
   have an := bltF h3
   have k1 : 0 < k := by omega
   split at h
   . rename_i h4
     cases h
     have lt := bltT h4
     have lt' : n < a + k := lt
     have e : Qbm n a k [] = (0, 8) := by
      simp [Qbm, k1, k4, lt']; omega
     have := Qjv (k := .i64) (l := .i64) (a := ((Qbm n a k []).1 : Nat)) (b := ((Qbm n a k []).2 : Nat)) (Qq1 x c n hs (by omega) a k (by omega) (by omega) [] (fun h2 h3 => by omega))
     rw [e] at this
     exact this
   . rename_i h4
     have h4' : ¬ n < a + k := by
      intro h5
      have : Nat.blt n (Nat.add a k) = true := Zma h5
      exact h4 this
     split at h
     case h_2 => cases h
     rename_i m hm
     cases h
     obtain ⟨p, hp, rfl⟩ := Qyp hm
     have e : Qbm n a k p = (Jx p, 0) := by
      have a1 : ¬ n < a := by omega
      simp [Qbm, k1, k4, a1, h4']
     have := Qjv (k := .i64) (l := .i64) (a := ((Qbm n a k p).1 : Nat)) (b := ((Qbm n a k p).2 : Nat)) (Qq1 x c n hs (by omega) a k (by omega) (by omega) p (fun _ _ => hp))
     rw [e] at this
     exact this
theorem Qvf (n : Nat) : ∀ i, leB n (i + 1) = UInt8.ofNat n :: leB (n / 256) i
 | 0 => by simp [leB]
 | i + 1 => by
   rw [leB, Qvf n i, leB]
   have : n / 256 ^ (i + 1) = n / 256 / 256 ^ i := by rw [Nat.pow_succ', Nat.div_div_eq_div_mul]
   rw [this]; rfl
theorem Qly : ∀ (k n : Nat), Qhl n k = Qj (leB n k)
 | 0, n => rfl
 | k + 1, n => by
   rw [Qvf, Qhl, Qly k (Nat.div n 256)]
   have e : (UInt8.ofNat n).toNat = n % 256 := by rw [UInt8.toNat_ofNat']
   show V.int .u8 (Int.ofNat (n % 256)) :: Qj (leB (n / 256) k) = V.int .u8 ((UInt8.ofNat n).toNat : Int) :: Qj (leB (n / 256) k)
   rw [e]; rfl
end
section
set_option maxRecDepth 100000
open Go.AM Go.AM.BM
attribute [local irreducible] U W
theorem put_fz (n : Nat) (hn : n < 4294967296) : Fz Tryz.prog Qz 106 [.int .i64 n, .int .i64 4] fun r => r = .tuple [.iS (Qj (leB n 4)) 4 false, .int .i64 0] := by
 obtain ⟨r, H, h1, v0, rfl, _, h2⟩ := put_cw n 4 (by omega) (by decide)
 have e : Qoa n 4 = .tuple [.iS (Qj (leB n 4)) 4 false, .int .i64 0] := by
  have : ¬ 256 ^ 4 <= n := by omega
  simp [Qoa, this]
 exact ⟨v0, H, _, h1, h2, e⟩
theorem Q15 {l : List UInt8} (hl : l.length <= 1048576) : wok (Qfc l) := by
 have ok := Qij (l := Qaa l (Kb l.length)) (j := (l.length + 1 + Kb l.length) / 8) (by rw [Qcb]; omega)
 exact Qjt 8 ⟨ok.1, Qcx ok.2.1 (by omega), ok.2.2.1, ok.2.2.2⟩
def wi (x : W4) : Nat -> Nat
 | 0 => x.a
 | 1 => x.b
 | 2 => x.c
 | _ => x.d
theorem wi_lt {x : W4} (h : wok x) : ∀ i, wi x i < 4294967296
 | 0 => h.1
 | 1 => h.2.1
 | 2 => h.2.2.1
 | _ + 3 => h.2.2.2
def Qt0 (x : W4) : Nat -> List UInt8
 | 0 => []
 | i + 1 => Qt0 x i ++ leB (wi x i) 4
def Qrt (x : W4) : Nat -> V
 | 0 => .nS
 | i + 1 => .gS 0 21 (Qj (Qt0 x (i + 1))) (4 * (i + 1)) 1
def keyH : Nat -> AM.Heap
 | 0 => [[]]
 | i + 1 => [[(21, .grow (4 * (i + 1)))]]
theorem Q5m {l : List UInt8} {f s n e : Nat} {g : Get} (h : g f s = some (.grow n)) (m : Nat) : frzN g (m + 2) (.gS f s (Qj l) n e) = some (.iS (Qj l) n false) := by
 have fl : Zb (frzN g (m + 1)) (Qj l) = some (Qj l) := Qhi _ _ _
 have e1 : frzN g (m + 2) (.gS f s (Qj l) n e) = (match g f s with
  | some (.grow k) => if k = n then (Zb (frzN g (m + 1)) (Qj l)).map fun cs => .iS cs n false else none
  | _ => none) := rfl
 rw [e1, h]
 simp only [if_true, fl, Zjs]
theorem key_cw (v : V) (l : List UInt8) (hv : Q1 v l) (hl : l.length <= 1048576) : CW Tryz.prog Qz 108 [v] [] fun r H => ∃ v0, r = .ret v0 /\ frzN (Qb H) depth v0 = some (.iS (Qj (Qt0 (Qfc l) 4)) 16 false) := by
 refine Xr Tryz.func108 rfl ?_
 obtain ⟨m, rfl, hm⟩ := (Qyf v l hv hl).op (by rfl) (Qt (hv.frz _) rfl)
 have hm' : ∀ s H, _ := fun s H => hm 108 0 s H rfl
 have ok := Q15 hl
 generalize Qfc l = z at *
 simp only [Qn, Qf, Qg, Ql, Qa, Qc, nov, gd, rho, Qe, wr, simprocAttr, Qi, ↓Qh, Tryz.ntmps108, ta, new, Qb, hset, Qu, Qs, Qp, splice, zerosN, Qo, Qq, Qk, V.pure, Qr, hm']
 refine W.ul ?_
 refine W.loopS (kt := [3, 9, 10]) rfl (fun i : Nat => Qye (Qrt z i) (.agg (wc z)) (.int .i64 i)) keyH (fun i => i <= 4) (fun i => 4 - i) ?_ 0 (Nat.zero_le _) rfl rfl
 intro i hi
 simp only [Qye]
 by_cases h : i < 4
 . have c1 : decide ((i : Int) < 4) = true := by simp; omega
   have ix : Qdx Tryz.prog 249 (.agg (wc z)) (.int .i64 i) = some (.int .u32 (wi z i)) := by
    have : i = 0 \/ i = 1 \/ i = 2 \/ i = 3 := by omega
    rcases this with rfl | rfl | rfl | rfl <;> (simp only [Qdx, Tryz.underlying249, Qsd]; rfl)
   have cv : ∀ g, convertV Tryz.prog g 27 3 (.int .u32 (wi z i)) = some (.val (.int .i64 (wi z i)) none) := fun g => by
    simp only [convertV, Tryz.underlying3, Tryz.underlying27]
    have := wi_lt ok i
    have : (IntKind.i64).wrap (wi z i : Int) = (wi z i : Int) := by rw [wrap_i64] <;> omega
    simp only [this]
   obtain ⟨m2, rfl, hm2⟩ := (put_fz (wi z i) (wi_lt ok i)).op (by rfl) rfl
   have hm2' : ∀ s H, _ := fun s H => hm2 108 0 s H rfl
   have w1 : (IntKind.i64).wrap ((i : Int) + 1) = ((i + 1 : Nat) : Int) := by rw [wrap_i64] <;> omega
   have mt : ∀ s, Qz.mt 108 s = false := fun s => rfl
   have ap : Zl Tryz.prog (Qz.mt 108) 0 (Qb (keyH i)) (some 21) 26 26 (Qrt z i) (.iS (Qj (leB (wi z i) 4)) 4 false) = some (.val (Qrt z (i + 1)) (some (0, 21, .grow (4 * (i + 1))))) := by
    have e2 : Qj (Qt0 z (i + 1)) = Qj (Qt0 z i) ++ Qj (leB (wi z i) 4) := by rw [Qt0, B3]
    have sc : ∀ g, Qy g 1 (.iS (Qj (leB (wi z i) 4)) 4 false) = some (Qj (leB (wi z i) 4), 4) := fun g => by
     simp [Qy, Yn, Qn2]
    cases i with
    | zero =>
      rw [Qrt, Qrt, Qgh Tryz.underlying26 sz5 Qsn zc5 rfl Tryz.underlying26 (sc _) (by omega) (by decide), Qbs (mt _) (Qc1 _) rfl, e2]
      rfl
    | succ i =>
      rw [Qrt, Qrt, Qfw Tryz.underlying26 sz5 Qsn zc5 rfl Tryz.underlying26 (sc _) (by omega) (Qa0 (by omega) (by omega)) (Qc1 _) (Qnh _) rfl, e2, show 4 * (i + 1) + 4 = 4 * (i + 1 + 1) by omega]
   have hs2 : List.modify (keyH i) 0 (fun fr => Qs fr 21 (.grow (4 * (i + 1)))) = keyH (i + 1) := by cases i <;> rfl
   generalize Qrt z i = S at *
   generalize keyH i = K at *
   simp only [Qn, Qf, Qg, Ql, Qa, Qc, nov, gd, rho, Qe, wr, simprocAttr, Qi, ↓Qh, ta, new, Qb, hset, Qu, Qs, Qp, splice, zerosN, Qo, Qq, Qk, V.pure, Qr, c1, ix, cv, hm2', mt, Yg, ap, hs2, w1, Tryz.underlying26]
   exact W.done ⟨i + 1, rfl, rfl, h, by omega⟩
 . have hi4 : i = 4 := by omega
   subst hi4
   have c1 : decide (((4 : Nat) : Int) < 4) = false := rfl
   simp only [Qn, Qf, Qg, Ql, Qa, Qc, nov, gd, rho, Qe, wr, simprocAttr, Qi, ↓Qh, ta, new, Qb, hset, Qu, Qs, Qp, splice, zerosN, Qo, Qq, Qk, V.pure, Qr, c1]
   refine W.done ?_
   simp only [Qn, Qf, Qg, Ql, Qa, Qc, nov, gd, rho, Qe, wr, simprocAttr, Qi, ↓Qh, ta, new, Qb, hset, Qu, Qs, Qp, splice, zerosN, Qo, Qq, Qk, V.pure, Qr]
   refine W.done (End.ret (v := Qrt z 4) rfl ⟨_, rfl, ?_⟩)
   rw [Qak rfl]
   exact Q5m rfl 10
theorem Q6t (ys : List V) (v : V) (h : kKey ys = some v) : FzN Tryz.prog Qz 108 ys v := by
 unfold kKey at h
 split at h
 case h_2 => cases h
 rename_i x
 split at h
 case h_2 => cases h
 rename_i c hc
 cases h
 obtain ⟨l, rfl, hb, hl⟩ := Qgc hc
 obtain ⟨r, H, e1, v0, rfl, e2⟩ := key_cw x l hb hl
 have e : keyC (Quc (Qj l)) = Qj (Qt0 (Qfc l) 4) := by
  rw [Qyx]
  simp only [keyC, Qt0, Qly, B3, Zmd, wi]
  rfl
 rw [e]
 exact ⟨_, _, e1, e2⟩
end
section
set_option maxRecDepth 100000
open Go.AM
attribute [local irreducible] U W
theorem Qry {x y : Operand} (p q : Kh) : Zz Tryz.prog .eql 31 x y (.agg p.cells) (.agg q.cells) = some (.bool (decide (p = q))) := by
 have hg : (Tryz.prog).eqGuardType (Tryz.prog).depth 31 = false := by kernel_rfl
 have hs : (Tryz.prog).stoodInHeld 31 = false := by kernel_rfl
 obtain ⟨p1, p2, p3, p4, p5⟩ := p
 obtain ⟨q1, q2, q3, q4, q5⟩ := q
 have e : decide ((⟨p1, p2, p3, p4, p5⟩ : Kh) = ⟨q1, q2, q3, q4, q5⟩) = (p1 == q1 && (p2 == q2 && (p3 == q3 && (p4 == q4 && p5 == q5)))) := by
  rw [Bool.eq_iff_iff]; simp
 rw [e]
 simp only [Kh.cells, Zz, Qjy, Tryz.underlying31, hg, eqV, hs, Qbz, Qbd, Tryz.underlying3, Tryz.underlying27, sz3, Qsd, Qk5, Qu9]
 have n1 : ("At" = "_") = False := by decide
 have n2 : ("Birth" = "_") = False := by decide
 have n3 : ("Iv" = "_") = False := by decide
 have n4 : ("Tag" = "_") = False := by decide
 have n5 : ("Sum" = "_") = False := by decide
 simp only [n1, n2, n3, n4, n5, if_false, Zjv, List.getElem?_cons_zero, List.getElem?_cons_succ, if_true]
 cases p1 == q1 <;> cases p2 == q2 <;> cases p3 == q3 <;> cases p4 == q4 <;> cases p5 == q5 <;> rfl
theorem Qce (p : Kh) : Fz Tryz.prog Qz 20 [.agg p.cells] fun x => x = .int .i64 (okE (Qgv p)) := by
 refine Jt Tryz.func20 rfl ?_
 have e0 : ∀ x y, Zz Tryz.prog .eql 31 x y (.agg p.cells) (.agg Qek.cells) = _ := fun x y => Qry p Qek
 obtain ⟨a, b, c, d, e⟩ := p
 simp only [Kh.cells, Qek] at e0
 simp only [Kh.cells]
 simp only [Qn, Qf, Qg, Ql, Qa, Qc, nov, gd, rho, Qe, wr, simprocAttr, Qi, ↓Qh, Tryz.ntmps20, ta, new, Qb, hset, Qu, Qs, Qp, splice, zerosN, Qo, Qq, Qk, V.pure, Qr, e0]
 repeat' ((first | refine W.guardF ?_ ?_ | refine W.guardT ?_ ?_ | refine W.guardXF ?_ ?_ | refine W.guardXT ?_ ?_ | refine W.ite ?_ ?_ | refine W.opsK1 (by kernel_rfl) ?_) <;> intro h <;> simp only [Qn, Qf, Qg, Ql, Qa, Qc, nov, gd, rho, Qe, wr, simprocAttr, Qi, ↓Qh, h, ta, new, Qb, hset, Qu, Qs, Qp, splice, zerosN, Qo, Qq, Qk, V.pure, Qr])
 all_goals refine W.done (Zu.ret rfl rfl ?_)
 all_goals first | rfl | (simp only [okE, Qgv, Q4n, Qek, *, Js, if_true, if_false]; try rfl)
/-! ### Numbers held against each other -/
theorem Quf (a : Int) : Fz Tryz.prog Qz 165 [.int .i64 a] fun x => x = .bool false := by
 refine Jt Tryz.func165 rfl ?_
 have e : (a != a) = false := by simp
 simp only [Qn, Qf, Qg, Ql, Qa, Qc, nov, gd, rho, Qe, wr, simprocAttr, Qi, ↓Qh, Tryz.ntmps165, ta, new, Qb, hset, Qu, Qs, Qp, splice, zerosN, Qo, Qq, Qk, V.pure, Qr, e]
 exact W.done (Zu.ret rfl rfl rfl)
theorem Xa (a b : Int) : Fz Tryz.prog Qz 88 [.int .i64 a, .int .i64 b] fun x => x = .int .i64 (Qag a b) := by
 refine Jt Tryz.func88 rfl ?_
 obtain ⟨m, rfl, hm⟩ := (Quf a).op (by rfl) rfl
 have hm1 : ∀ s H, _ := fun s H => hm 88 0 s H rfl
 obtain ⟨m, rfl, hm⟩ := (Quf b).op (by rfl) rfl
 have hm2 : ∀ s H, _ := fun s H => hm 88 0 s H rfl
 simp only [Qn, Qf, Qg, Ql, Qa, Qc, nov, gd, rho, Qe, wr, simprocAttr, Qi, ↓Qh, Tryz.ntmps88, ta, new, Qb, hset, Qu, Qs, Qp, splice, zerosN, Qo, Qq, Qk, V.pure, Qr, hm1, hm2]
 repeat' ((first | refine W.guardF ?_ ?_ | refine W.guardT ?_ ?_ | refine W.guardXF ?_ ?_ | refine W.guardXT ?_ ?_ | refine W.ite ?_ ?_ | refine W.opsK1 (by kernel_rfl) ?_) <;> intro h <;> simp only [Qn, Qf, Qg, Ql, Qa, Qc, nov, gd, rho, Qe, wr, simprocAttr, Qi, ↓Qh, h, ta, new, Qb, hset, Qu, Qs, Qp, splice, zerosN, Qo, Qq, Qk, V.pure, Qr])
 all_goals refine W.done (Zu.ret rfl rfl ?_)
 all_goals first | rfl | (simp only [Qag, *, Js, if_true, if_false]; try rfl)
theorem or_fz (v : V) (l : List Int) (hv : Bk v l) (hl : l.length <= 1000) : Fz Tryz.prog Qz 89 [v] fun x => x = .int .i64 (Qki l) := by
 refine Jt Tryz.func89 rfl ?_
 have len := hv.len Tryz.underlying32
 simp only [Qn, Qf, Qg, Ql, Qa, Qc, nov, gd, rho, Qe, wr, simprocAttr, Qi, ↓Qh, Tryz.ntmps89, ta, new, Qb, hset, Qu, Qs, Qp, splice, zerosN, Qo, Qq, Qk, V.pure, Qr, len]
 refine W.ul ?_
 refine W.loopS (kt := [3, 6, 7, 8]) rfl (fun i : Nat => Q3w (.int .i64 0) v (.int .i64 l.length) (.int .i64 i)) (fun _ => [[]]) (fun i => i <= l.length /\ Qki (l.drop i) = Qki l) (fun i => l.length - i) ?_ 0 ⟨by omega, rfl⟩ rfl rfl
 rintro i ⟨hi, hR⟩
 simp only [Q3w]
 by_cases h : i < l.length
 . have c1 : decide ((i : Int) < l.length) = true := Zmo (by omega)
   have at1 := hv.at (k := .i64) Tryz.underlying32 sz3 (by decide) (i := (i : Int)) (by omega) (by omega)
   have g1 : (Q3 l)[(i : Int).toNat * 1]? = some (.int .i64 l[i]) := by simp [h, Q3]
   have g1' : (Q3 l)[(i : Int).toNat]? = some (.int .i64 l[i]) := by simp [h, Q3]
   have w1 : (IntKind.i64).wrap ((i : Int) + 1) = ((i + 1 : Nat) : Int) := by rw [wrap_i64] <;> omega
   have hd : Qki (l.drop i) = if l[i] != 0 then l[i] else Qki (l.drop (i + 1)) := by rw [Zmf h]; rfl
   simp only [Qn, Qf, Qg, Ql, Qa, Qc, nov, gd, rho, Qe, wr, simprocAttr, Qi, ↓Qh, c1, at1, rd3, g1, g1', ta, new, Qb, hset, Qu, Qs, Qp, splice, zerosN, Qo, Qq, Qk, V.pure, Qr]
   refine W.ite ?_ ?_ <;> intro h2 <;> simp only [Qn, Qf, Qg, Ql, Qa, Qc, nov, gd, rho, Qe, wr, simprocAttr, Qi, ↓Qh, ta, new, Qb, hset, Qu, Qs, Qp, splice, zerosN, Qo, Qq, Qk, V.pure, Qr, w1]
   . refine W.done ?_
     simp only [Qn, Qf, Qg, Ql, Qa, Qc, nov, gd, rho, Qe, wr, simprocAttr, Qi, ↓Qh]
     refine W.done (Zu.ret rfl rfl ?_)
     rw [<- hR, hd, h2]; rfl
   . refine W.done ⟨i + 1, rfl, rfl, ⟨by omega, ?_⟩, by omega⟩
     rw [<- hR, hd, h2]; rfl
 . have c1 : decide ((i : Int) < l.length) = false := Zmp (by omega)
   simp only [Qn, Qf, Qg, Ql, Qa, Qc, nov, gd, rho, Qe, wr, simprocAttr, Qi, ↓Qh, c1]
   refine W.done ?_
   simp only [Qn, Qf, Qg, Ql, Qa, Qc, nov, gd, rho, Qe, wr, simprocAttr, Qi, ↓Qh]
   refine W.done (Zu.ret rfl rfl ?_)
   rw [<- hR, Zlx (by omega)]; rfl
theorem Qsu (p q : Kh) : Fz Tryz.prog Qz 163 [.agg p.cells, .agg q.cells] fun x => x = .int .i64 (Qag p.at_ q.at_) := by
 refine Jt Tryz.func163 rfl ?_
 obtain ⟨a, b, c, d, e⟩ := p
 obtain ⟨a', b', c', d', e'⟩ := q
 simp only [Kh.cells]
 obtain ⟨m, rfl, hm⟩ := (Xa a a').op (by rfl) rfl
 have hm1 : ∀ s H, _ := fun s H => hm 163 0 s H rfl
 simp only [Qn, Qf, Qg, Ql, Qa, Qc, nov, gd, rho, Qe, wr, simprocAttr, Qi, ↓Qh, Tryz.ntmps163, ta, new, Qb, hset, Qu, Qs, Qp, splice, zerosN, Qo, Qq, Qk, V.pure, Qr, hm1]
 exact W.done (Zu.ret rfl rfl rfl)
end
section
set_option maxRecDepth 100000
open Go.AM
attribute [local irreducible] U W
theorem _root_.Go.AM.LinesC.ld {ls : List Jj} {cs : List V} {i : Nat} (h : LinesC cs ls) (hi : i < ls.length) : ∃ dv, Qd4 dv ls[i].dead /\ (∀ g, ldV Tryz.prog 80 g (.iptr cs (i * 13)) = some (.agg (Ky ls[i] dv))) := by
 obtain ⟨dv, h1, h2⟩ := h.at_ (Zjr hi)
 refine ⟨dv, h2, fun g => ?_⟩
 show Q2 Tryz.prog 80 cs (i * 13) = _
 have := h.len
 rw [rd80, if_pos (by omega), h1]
/-! ### Searching -/
theorem Qyo (g : Get) (n : Nat) (h : n <= 281474976710656) : convertV Tryz.prog g 3 211 (.int .i64 (n : Int)) = some (.val (.int .u64 (n : Int)) none) := by
 have w : (IntKind.u64).wrap (n : Int) = (n : Int) := by
  simp only [IntKind.wrap, IntKind.bits, IntKind.signed, Zmc, Zjv, if_false]; omega
 simp only [convertV, Tryz.underlying3, Tryz.underlying211, w]
theorem Qyu (g : Get) (n : Nat) (h : n <= 281474976710656) : convertV Tryz.prog g 211 3 (.int .u64 (n : Int)) = some (.val (.int .i64 (n : Int)) none) := by
 simp only [convertV, Tryz.underlying3, Tryz.underlying211, wrap_i64 (n := (n : Int)) (by omega) (by omega)]
theorem Quo (l : Jj) (dv : V) (hd : Qd4 dv l.dead) (id : Int) : Fz Tryz.prog Qz 87 [.agg (Ky l dv), .int .i64 id] fun x => x = .int .i64 (Qag l.id id) := by
 refine Jt Tryz.func87 rfl ?_
 have sc := Qcw hd
 obtain ⟨m, rfl, hm⟩ := (Xa l.id id).op (by rfl) rfl
 have hm1 : ∀ s H, _ := fun s H => hm 87 0 s H rfl
 simp only [Qn, Qf, Qg, Ql, Qa, Qc, nov, gd, rho, Qe, wr, simprocAttr, Qi, ↓Qh, Tryz.ntmps87, ta, new, Qb, hset, Qu, Qs, Qp, splice, zerosN, Qo, Qq, Qk, V.pure, Qr, Ky, sc, hm1]
 exact W.done (Zu.ret rfl rfl rfl)
theorem Q1g (v : V) (ls : List Jj) (hv : Qgd v ls) (hl : ls.length <= 1000000) (id : Int) :
 Fz Tryz.prog Qz 86 [v, .int .i64 id, .func (.func 87) [] []] fun x => x = .tuple [.int .i64 (bs (B4 ls id) ls.length), .bool (Qjr (B4 ls id) ls.length)] := by
 refine Jt Tryz.func86 rfl ?_
 obtain ⟨cs, hc, hv⟩ := hv
 have len := hv.len Tryz.underlying33
 have sc := Qcw hv
 simp only [Qn, Qf, Qg, Ql, Qa, Qc, nov, gd, rho, Qe, wr, simprocAttr, Qi, ↓Qh, Tryz.ntmps86, ta, new, Qb, hset, Qu, Qs, Qp, splice, zerosN, Qo, Qq, Qk, V.pure, Qr, len]
 refine W.ul ?_
 refine W.loopS (kt := [0, 1, 2, 8, 9, 10]) rfl (fun a : Nat × Nat => Q28 v (.int .i64 id) (.func (.func 87) [] []) (.int .i64 ls.length) (.int .i64 a.1) (.int .i64 a.2)) (fun _ => [[]])
  (fun a => a.1 <= a.2 /\ a.2 <= ls.length /\ Qgm (B4 ls id) (a.2 - a.1) a.1 a.2 = bs (B4 ls id) ls.length) (fun a => a.2 - a.1) ?_ (0, ls.length) ⟨by simp, by simp, rfl⟩ rfl rfl
 rintro ⟨i, j⟩ ⟨hij, hj, hR⟩
 simp only at hij hj hR
 simp only [Q28]
 by_cases h : i < j
 . have c1 : decide ((i : Int) < j) = true := Zmo (by omega)
   have wa : (IntKind.i64).wrap ((i : Int) + j) = ((i + j : Nat) : Int) := by rw [wrap_i64] <;> omega
   have hm : (i + j) / 2 < ls.length := by omega
   have at1 := hv.at (k := .i64) Tryz.underlying33 Qsa (by decide) (i := (((i + j) / 2 : Nat) : Int)) (by omega) (by omega)
   obtain ⟨dv, hd, ld⟩ := hc.ld hm
   have ld' : ∀ g, ldV Tryz.prog 80 g (.iptr cs ((((i + j) / 2 : Nat) : Int).toNat * 13)) = _ := ld
   have cv1 := fun g => Qyo g (i + j) (by omega)
   have cv2 := fun g => Qyu g ((i + j) / 2) (by omega)
   have sh : ∀ p q, Zz Tryz.prog .shr 211 p q (.int .u64 ((i + j : Nat) : Int)) (.int .u64 1) = _ := fun p q => Q4g (i + j)
   obtain ⟨m, rfl, hm2⟩ := (Quo ls[(i + j) / 2] dv hd id).op (by rfl) (Qt (Qmm hd) rfl)
   have hm3 : ∀ s H, _ := fun s H => hm2 86 0 s H rfl
   have eL : B4 ls id ((i + j) / 2) = Qag ls[(i + j) / 2].id id := by simp only [B4, Zjr hm]
   have w1 : (IntKind.i64).wrap ((((i + j) / 2 : Nat) : Int) + 1) = (((i + j) / 2 + 1 : Nat) : Int) := by rw [wrap_i64] <;> omega
   rw [<- eL] at hm3
   simp only [Qn, Qf, Qg, Ql, Qa, Qc, nov, gd, rho, Qe, wr, simprocAttr, Qi, ↓Qh, c1, wa, at1, ld', cv1, cv2, sh, hm3, ta, new, Qb, hset, Qu, Qs, Qp, splice, zerosN, Qo, Qq, Qk, V.pure, Qr]
   refine W.ite ?_ ?_ <;> intro h2 <;> simp only [Qn, Qf, Qg, Ql, Qa, Qc, nov, gd, rho, Qe, wr, simprocAttr, Qi, ↓Qh, ta, new, Qb, hset, Qu, Qs, Qp, splice, zerosN, Qo, Qq, Qk, V.pure, Qr, w1]
   . exact W.done ⟨((i + j) / 2 + 1, j), rfl, rfl, ⟨by simp only; omega, hj, by rw [<- hR, Q3e h h2]⟩, by simp only; omega⟩
   . exact W.done ⟨(i, (i + j) / 2), rfl, rfl, ⟨by simp only; omega, by simp only; omega, by rw [<- hR, Q46 h h2]⟩, by simp only; omega⟩
 . have c1 : decide ((i : Int) < j) = false := Zmp (by omega)
   have e : i = j := by omega
   subst e
   have hi : i = bs (B4 ls id) ls.length := by
    rw [<- hR, Nat.sub_self]; rfl
   have key : Qjr (B4 ls id) ls.length = (decide (i < ls.length) && decide (B4 ls id i = 0)) := by rw [Qjr, <- hi]
   rw [key, <- hi]
   simp only [Qn, Qf, Qg, Ql, Qa, Qc, nov, gd, rho, Qe, wr, simprocAttr, Qi, ↓Qh, c1]
   refine W.done ?_
   by_cases h2 : i < ls.length
   . have c2 : decide ((i : Int) < ls.length) = true := Zmo (by omega)
     have at1 := hv.at (k := .i64) Tryz.underlying33 Qsa (by decide) (i := (i : Int)) (by omega) (by omega)
     obtain ⟨dv, hd, ld⟩ := hc.ld h2
     have ld' : ∀ g, ldV Tryz.prog 80 g (.iptr cs ((i : Int).toNat * 13)) = _ := ld
     obtain ⟨m, rfl, hm2⟩ := (Quo ls[i] dv hd id).op (by rfl) (Qt (Qmm hd) rfl)
     have hm3 : ∀ s H, _ := fun s H => hm2 86 0 s H rfl
     have eL : B4 ls id i = Qag ls[i].id id := by simp only [B4, Zjr h2]
     rw [<- eL] at hm3
     have e0 : (B4 ls id i == 0) = decide (B4 ls id i = 0) := rfl
     simp only [Qn, Qf, Qg, Ql, Qa, Qc, nov, gd, rho, Qe, wr, simprocAttr, Qi, ↓Qh, c2, at1, ld', hm3, e0, ta, new, Qb, hset, Qu, Qs, Qp, splice, zerosN, Qo, Qq, Qk, V.pure, Qr]
     rw [Zmo h2, Zlq]
     exact W.done (Zu.ret rfl rfl rfl)
   . have c2 : decide ((i : Int) < ls.length) = false := Zmp (by omega)
     simp only [Qn, Qf, Qg, Ql, Qa, Qc, nov, gd, rho, Qe, wr, simprocAttr, Qi, ↓Qh, c2, ta, new, Qb, hset, Qu, Qs, Qp, splice, zerosN, Qo, Qq, Qk, V.pure, Qr]
     rw [Zmp h2, Zmc]
     exact W.done (Zu.ret rfl rfl rfl)
theorem Qsi (v : V) (ls : List Jj) (cs : List V) (hc : LinesC cs ls) (hv : Zn 13 v cs ls.length) (hl : ls.length <= 1000000) (id : Int) :
 Fz Tryz.prog Qz 23 [v, .int .i64 id] fun x => x = (match Qcz ls id with | some i => .iptr cs (i * 13) | none => .nP) := by
 refine Jt Tryz.func23 rfl ?_
 obtain ⟨m, rfl, hm⟩ := (Q1g v ls ⟨cs, hc, hv⟩ hl id).op (by rfl) (Qt (hv.frz _) rfl)
 have hm1 : ∀ s H, _ := fun s H => hm 23 0 s H rfl
 simp only [Qn, Qf, Qg, Ql, Qa, Qc, nov, gd, rho, Qe, wr, simprocAttr, Qi, ↓Qh, Tryz.ntmps23, ta, new, Qb, hset, Qu, Qs, Qp, splice, zerosN, Qo, Qq, Qk, V.pure, Qr, hm1]
 refine W.ite ?_ ?_ <;> intro h <;> simp only [Qn, Qf, Qg, Ql, Qa, Qc, nov, gd, rho, Qe, wr, simprocAttr, Qi, ↓Qh, ta, new, Qb, hset, Qu, Qs, Qp, splice, zerosN, Qo, Qq, Qk, V.pure, Qr]
 . have h' : Qjr (B4 ls id) ls.length = false := by simpa using h
   exact W.done (Zu.ret rfl rfl (by simp only [Qcz, h']; rfl))
 . have h' : Qjr (B4 ls id) ls.length = true := by simpa using h
   have hlt : bs (B4 ls id) ls.length < ls.length := by
    simp only [Qjr, Zki] at h'; exact of_decide_eq_true h'.1
   have at1 := hv.at (k := .i64) Tryz.underlying33 Qsa (by decide) (i := ((bs (B4 ls id) ls.length : Nat) : Int)) (by omega) (by omega)
   simp only [Qn, Qf, Qg, Ql, Qa, Qc, nov, gd, rho, Qe, wr, simprocAttr, Qi, ↓Qh, ta, new, Qb, hset, Qu, Qs, Qp, splice, zerosN, Qo, Qq, Qk, V.pure, Qr, at1]
   refine W.done (Zu.ret rfl rfl ?_)
   simp only [Qcz, h', if_true]; rfl
end
end Go.Proofs.YtgnnlchhfiomgaaGreatDoor
