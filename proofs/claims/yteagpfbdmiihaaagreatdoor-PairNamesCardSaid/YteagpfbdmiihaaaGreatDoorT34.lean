/- This file holds in one the texts DP, DQ, DR, DN, DN2, E1; each says at its head what it proves. -/
import Derived.Test.YteagpfbdmiihaaaGreatDoorT20
import Derived.Test.YteagpfbdmiihaaaGreatDoorT27
import Derived.Test.YteagpfbdmiihaaaGreatDoorT28
import Derived.Test.YteagpfbdmiihaaaGreatDoorT29
import Derived.Test.YteagpfbdmiihaaaGreatDoorT30
import Derived.Test.YteagpfbdmiihaaaGreatDoorT31
set_option linter.unusedSimpArgs false
set_option linter.unusedVariables false
namespace Go.Proofs.YteagpfbdmiihaaaGreatDoor
section
set_option maxRecDepth 100000
open Go.AM Go.AM.BM
attribute [local irreducible] U W
def leB (n : Nat) : Nat -> List UInt8
 | 0 => []
 | i + 1 => leB n i ++ [UInt8.ofNat (n / 256 ^ i)]
theorem Qh1 (n : Nat) : ∀ i, (leB n i).length = i
 | 0 => rfl
 | i + 1 => by simp [leB, Qh1 n i]
def Qsk (n : Nat) : Nat -> V
 | 0 => .nS
 | i + 1 => .gS 0 31 (Qc (leB n (i + 1))) (i + 1) 1
def Qsa : Nat -> AM.Heap
 | 0 => [[]]
 | i + 1 => [[(31, .grow (i + 1))]]
def Qmz (n k : Nat) : V := if !(decide (0 < k) && decide (k <= 4)) || decide (256 ^ k <= n) then .tuple [.nS, .int .i64 2] else .tuple [.iS (Qc (leB n k)) k false, .int .i64 0]
theorem Qdu (g : Get) (m : Nat) : ∀ l : List UInt8, Zb (frzN g (m + 1)) (Qc l) = some (Qc l)
 | [] => rfl
 | b :: l => by
   have := Qdu g m l
   simp only [Qc, Zlh] at this ⊢
   exact Qt rfl this
theorem put_cw (n k : Nat) (hn : n <= 281474976710656) (hk : k <= 4294967296) : CW Tryz.prog Qz 213 [.int .i64 n, .int .i64 k] [] fun r H => ∃ v0, r = .ret v0 /\ frzN (Qb H) depth v0 = some (Qmz n k) /\ frz (Qb H) depth v0 = some (Qmz n k) := by
 refine Xk Tryz.func213 rfl ?_
 obtain ⟨m, rfl, hm⟩ := (Qvy k).op (by rfl) rfl
 have hm' : ∀ s H, _ := fun s H => hm 213 0 s H rfl
 have c0 : decide ((n : Int) < 0) = false := by simp
 have err : ∀ (T : List V), T.getD 4 .bad = .nS -> T.getD 5 .bad = .int .i64 2 -> Qmz n k = .tuple [.nS, .int .i64 2] -> AM.End Tryz.prog Tryz.f213 0 (fun r H => ∃ v0, r = .ret v0 /\ frzN (Qb H) depth v0 = some (Qmz n k) /\ frz (Qb H) depth v0 = some (Qmz n k)) .ret T [[]] := by
  intro T h1 h2 h3
  refine End.ret (v := .tuple [.nS, .int .i64 2]) ?_ ⟨_, rfl, by rw [h3]; rfl, by rw [h3]; rfl⟩
  show (match Qfy Tryz.prog T [[]] [.tmp 4, .tmp 5] with | some [v] => some v | some vs => some (V.tuple vs) | none => none) = _
  simp only [Qfy, Bv, h1, h2]
 cases hs : (decide (0 < k) && decide (k <= 4)) with
 | false =>
   rw [hs] at hm'
   simp only [Qn, Qh, Qg, Ql, Qa, Qd, nov, gd, rho, Qe, wr, simprocAttr, Qj, ↓Qi, Tryz.ntmps213, ta, new, Qb, hset, Qu, Qs, Qp, splice, zerosN, Qo, Qr, Qk, V.pure, Qq, hm']
   refine W.done (err _ rfl rfl ?_)
   simp [Qmz, hs]
 | true =>
   rw [hs] at hm'
   have hk4 : 0 < k /\ k <= 4 := by simpa using hs
   have m8 : (IntKind.i64).wrap (8 * (k : Int)) = ((8 * k : Nat) : Int) := by rw [wrap_i64] <;> omega
   have sh : ∀ p q, Z1 Tryz.prog .shl 3 p q (.int .i64 1) (.int .i64 ((8 * k : Nat) : Int)) = some (.int .i64 ((256 ^ k : Nat) : Int)) := fun p q => by
    obtain ⟨h1, h2⟩ := hk4
    have : k = 1 \/ k = 2 \/ k = 3 \/ k = 4 := by omega
    rcases this with rfl | rfl | rfl | rfl <;> rfl
   have cg : decide ((n : Int) >= ((256 ^ k : Nat) : Int)) = decide (256 ^ k <= n) := by simp only [ge_iff_le, Int.ofNat_le]
   simp only [Qn, Qh, Qg, Ql, Qa, Qd, nov, gd, rho, Qe, wr, simprocAttr, Qj, ↓Qi, Tryz.ntmps213, ta, new, Qb, hset, Qu, Qs, Qp, splice, zerosN, Qo, Qr, Qk, V.pure, Qq, hm', c0, m8, sh, cg]
   refine W.ite (fun h => ?_) (fun h => ?_)
   . simp only [Qn, Qh, Qg, Ql, Qa, Qd, nov, gd, rho, Qe, wr, simprocAttr, Qj, ↓Qi]
     refine W.done (err _ rfl rfl ?_)
     simp only [decide_eq_true_eq] at h
     simp [Qmz, hs, h]
   . have hv : Qmz n k = .tuple [.iS (Qc (leB n k)) k false, .int .i64 0] := by
      simp only [Qmz, hs, h]; rfl
     rw [hv]
     simp only [Qn, Qh, Qg, Ql, Qa, Qd, nov, gd, rho, Qe, wr, simprocAttr, Qj, ↓Qi, ta, new, Qb, hset, Qu, Qs, Qp, splice, zerosN, Qo, Qr, Qk, V.pure, Qq]
     refine W.ul ?_
     refine W.loopS (kt := [0, 1, 6]) rfl (fun i : Nat => Qys (.int .i64 ((n / 256 ^ i : Nat) : Int)) (.int .i64 k) (Qsk n i)) Qsa (fun i => i <= k) (fun i => k - i) ?_ 0 (Nat.zero_le _) (by simp only [Nat.pow_zero, Nat.div_one]; rfl) rfl
     intro i hi
     simp only [Qys]
     have len : ∀ g, Ka Tryz.prog g 25 (Qsk n i) = some (.int .i64 (i : Nat)) := fun g => by
      cases i with
      | zero => exact Qel Tryz.underlying25
      | succ i => exact len_g Tryz.underlying25 g
     by_cases h2 : i < k
     . have c1 : decide ((i : Int) < k) = true := by simp only [decide_eq_true_eq]; omega
       generalize hN : n / 256 ^ i = N
       have hNn : N <= n := by rw [<- hN]; exact Nat.div_le_self _ _
       have cv : ∀ g, convertV Tryz.prog g 3 5 (.int .i64 N) = some (.val (.int .u8 ((UInt8.ofNat N).toNat : Nat)) none) := fun g => by
        simp only [convertV, Tryz.underlying3, Tryz.underlying5]
        have : (IntKind.u8).wrap (N : Int) = ((UInt8.ofNat N).toNat : Int) := by
         rw [IntKind.wrap_u8, UInt8.toNat_ofNat']; omega
        simp only [this]
       have q : ∀ x y, Z1 Tryz.prog .quo 3 x y (.int .i64 N) (.int .i64 256) = some (.int .i64 ((N / 256 : Nat) : Int)) := fun x y => by
        have e : (N : Int).tdiv 256 = ((N / 256 : Nat) : Int) := by
         rw [Int.tdiv_eq_ediv_of_nonneg (by omega)]; omega
        have w : (IntKind.i64).wrap ((N / 256 : Nat) : Int) = ((N / 256 : Nat) : Int) := by rw [wrap_i64] <;> omega
        show some (V.int .i64 ((IntKind.i64).wrap ((N : Int).tdiv 256))) = _
        rw [e, w]
       have ap : Zj Tryz.prog (Qz.mt 213) 0 (Qb (Qsa i)) (some 31) 25 25 (Qsk n i) (.iS [.int .u8 ((UInt8.ofNat N).toNat : Nat)] 1 true) = some (.val (Qsk n (i + 1)) (some (0, 31, .grow (i + 1)))) := by
        have mt : Qz.mt 213 31 = false := rfl
        have e2 : Qc (leB n (i + 1)) = Qc (leB n i) ++ [.int .u8 ((UInt8.ofNat N).toNat : Nat)] := by rw [leB, Yr, hN]; rfl
        cases i with
        | zero =>
          rw [Qsk, Qsk, Qgg Tryz.underlying25 sz5 Qn5 zc5 rfl Tryz.underlying25 (m := 1) (cs := [.int .u8 ((UInt8.ofNat N).toNat : Nat)]) rfl (by omega) (by decide), Qcc mt rfl rfl, e2]
          rfl
        | succ i =>
          rw [Qsk, Qsk, Qe5 Tryz.underlying25 sz5 Qn5 zc5 rfl Tryz.underlying25 (cs := [.int .u8 ((UInt8.ofNat N).toNat : Nat)]) (m := 1) rfl (by omega) (Qa2 (by omega) (by omega)) rfl rfl rfl, e2]
       have hs2 : List.modify (Qsa i) 0 (fun fr => Qs fr 31 (.grow (i + 1))) = Qsa (i + 1) := by cases i <;> rfl
       have mt : ∀ s, Qz.mt 213 s = false := fun s => rfl
       generalize Qsk n i = S at *
       generalize Qsa i = K at *
       simp only [Qn, Qh, Qg, Ql, Qa, Qd, nov, gd, rho, Qe, wr, simprocAttr, Qj, ↓Qi, ta, new, Qb, hset, Qu, Qs, Qp, splice, zerosN, Qo, Qr, Qk, V.pure, Qq, len, c1, cv, q, mt, J9, ap, hs2, Tryz.underlying25]
       refine W.done ⟨i + 1, ?_, rfl, h2, by omega⟩
       have : n / 256 ^ (i + 1) = N / 256 := by rw [Nat.pow_succ, <- Nat.div_div_eq_div_mul, hN]
       rw [this]; rfl
     . have hik : i = k := by omega
       subst hik
       have c1 : decide ((i : Int) < i) = false := by simp
       simp only [Qn, Qh, Qg, Ql, Qa, Qd, nov, gd, rho, Qe, wr, simprocAttr, Qj, ↓Qi, ta, new, Qb, hset, Qu, Qs, Qp, splice, zerosN, Qo, Qr, Qk, V.pure, Qq, len, c1]
       refine W.done ?_
       simp only [Qn, Qh, Qg, Ql, Qa, Qd, nov, gd, rho, Qe, wr, simprocAttr, Qj, ↓Qi, ta, new, Qb, hset, Qu, Qs, Qp, splice, zerosN, Qo, Qr, Qk, V.pure, Qq]
       obtain ⟨j, rfl⟩ : ∃ j, i = j + 1 := ⟨i - 1, by omega⟩
       refine W.done (End.ret (v := .tuple [.gS 0 31 (Qc (leB n (j + 1))) (j + 1) 1, .int .i64 0]) rfl ⟨_, rfl, ?_, ?_⟩) <;> rw [Qat rfl]
       . have fl : Zb (frzN (Qb (Qsa (j + 1))) 10) (Qc (leB n (j + 1))) = some (Qc (leB n (j + 1))) := Qdu _ _ _
         have f1 : frzN (Qb (Qsa (j + 1))) 11 (.gS 0 31 (Qc (leB n (j + 1))) (j + 1) 1) = some (.iS (Qc (leB n (j + 1))) (j + 1) false) := by
          show (if j + 1 = j + 1 then (Zb (frzN (Qb (Qsa (j + 1))) 10) (Qc (leB n (j + 1)))).map _ else none) = _
          rw [fl, if_pos rfl]; rfl
         show (Zb (frzN _ 11) [V.gS 0 31 (Qc (leB n (j + 1))) (j + 1) 1, .int .i64 0]).map _ = _
         rw [Qt f1 (Qt (y := .int .i64 0) rfl rfl)]; rfl
       . have f1 := Qnr (l := leB n (j + 1)) (f := 0) (s := 31) (n := j + 1) (e := 1) (Qb (Qsa (j + 1))) 9
         show (Zb (frz _ 11) [V.gS 0 31 (Qc (leB n (j + 1))) (j + 1) 1, .int .i64 0]).map _ = _
         rw [Qt f1 (Qt (y := .int .i64 0) rfl rfl)]; rfl
end
section
set_option maxRecDepth 100000
open Go.AM Go.AM.BM
attribute [local irreducible] U W
theorem slC_ok {x : V} {c : List V} {n : Nat} (h : slC x = some (c, n)) : Zq 1 x c n /\ n <= 1048576 := by
 cases x with
 | nS => cases h; exact ⟨Zq.nil, by decide⟩
 | iS xs m f =>
   simp only [slC] at h
   split at h
   case isFalse => cases h
   rename_i hc
   cases h
   simp only [Zlm] at hc
   have e1 := Znh hc.1
   have e2 := Zmy hc.2
   exact ⟨Zq.mk (by omega), e2⟩
 | _ => cases h
theorem Qy8 : ∀ {c : List V} {m : Nat}, numC c = some m -> ∃ p : List UInt8, c = Qc p /\ J7 p = m
 | [], m, h => by cases h; exact ⟨[], rfl, rfl⟩
 | v :: r, m, h => by
   unfold numC at h
   split at h
   . rename_i e; cases e
   . rename_i b r' e
     cases e
     split at h
     case isFalse => cases h
     rename_i hb
     cases hr : numC r with
     | none => rw [hr] at h; cases h
     | some n =>
       rw [hr] at h; cases h
       obtain ⟨p, rfl, rfl⟩ := Qy8 hr
       have hb' : b < 256 := by
        simp only [Nat.blt] at hb
        have := Zmy hb
        omega
       have e : (UInt8.ofNat b).toNat = b := by simp; omega
       refine ⟨UInt8.ofNat b :: p, ?_, ?_⟩
       . show V.int .u8 (Int.ofNat b) :: Qc p = V.int .u8 ((UInt8.ofNat b).toNat : Int) :: Qc p
         rw [e]; rfl
       . simp only [J7, e]; rfl
   . cases h
theorem Qyv {g : Get} {n : Nat} {v : V} {k : IntKind} {m : Int} (h : frz g n v = some (.int k m)) : v = .int k m := by
 cases n with
 | zero => cases h
 | succ n =>
   cases v with
   | int k' m' => simpa [frz] using h
   | mS f s o len cap esz =>
     simp only [frz] at h
     split at h
     . split at h
       . simp only [Zmc] at h; obtain ⟨_, _, h⟩ := h; cases h
       . cases h
     . cases h
   | ptr f s o =>
     simp only [frz] at h
     split at h
     . simp only [Zmc] at h; obtain ⟨_, _, h⟩ := h; cases h
     . cases h
   | func fn a b =>
     simp only [frz] at h
     split at h <;> cases h
   | _ => first | (simp only [frz, Zmc] at h; obtain ⟨_, _, h⟩ := h; cases h) | (simp [frz] at h)
theorem Qlu {f : V -> Option V} {x : V} {l m : List V} (h : Zb f (x :: l) = some m) : ∃ y ys, f x = some y /\ Zb f l = some ys /\ m = y :: ys := by
 simp only [Zb] at h
 cases hx : f x with
 | none => rw [hx] at h; cases h
 | some y =>
   cases hl : Zb f l with
   | none => rw [hx, hl] at h; cases h
   | some ys => rw [hx, hl] at h; cases h; exact ⟨y, ys, rfl, rfl, rfl⟩
theorem Q5u {g : Get} {n : Nat} {v : V} {k l : IntKind} {a b : Int} (h : frz g n v = some (.tuple [.int k a, .int l b])) : v = .tuple [.int k a, .int l b] := by
 cases n with
 | zero => cases h
 | succ n =>
   cases v with
   | tuple cs =>
     simp only [frz, Zmc] at h
     obtain ⟨ds, h, e⟩ := h
     cases e
     cases cs with
     | nil => cases h
     | cons x cs =>
       obtain ⟨y, ys, h1, h2, e⟩ := Qlu h
       cases e
       cases cs with
       | nil => cases h2
       | cons z cs =>
         obtain ⟨y', ys', h3, h4, e⟩ := Qlu h2
         cases e
         cases cs with
         | nil => rw [Qyv h1, Qyv h3]
         | cons w cs =>
           obtain ⟨_, _, _, _, e⟩ := Qlu h4
           cases e
   | mS f s o len cap esz =>
     simp only [frz] at h
     split at h
     . split at h
       . simp only [Zmc] at h; obtain ⟨_, _, h⟩ := h; cases h
       . cases h
     . cases h
   | ptr f s o =>
     simp only [frz] at h
     split at h
     . simp only [Zmc] at h; obtain ⟨_, _, h⟩ := h; cases h
     . cases h
   | func fn a b =>
     simp only [frz] at h
     split at h <;> cases h
   | _ => first | (simp only [frz, Zmc] at h; obtain ⟨_, _, h⟩ := h; cases h) | (simp [frz] at h)
theorem Qji {f : FuncId} {args : List V} {k l : IntKind} {a b : Int} (h : Fz Tryz.prog Qz f args fun r => r = .tuple [.int k a, .int l b]) : FzN Tryz.prog Qz f args (.tuple [.int k a, .int l b]) := by
 obtain ⟨v, H', v', h1, h2, rfl⟩ := h
 obtain rfl := Q5u h2
 exact ⟨_, _, h1, rfl⟩
theorem beqF {a b : Nat} (h : Nat.beq a b = false) : a ≠ b := by
 intro e; subst e; simp at h
theorem bltT {a b : Nat} (h : Nat.blt a b = true) : a < b := by
 simp only [Nat.blt] at h
 have := Zmy h; omega
theorem bltF {a b : Nat} (h : Nat.blt a b = false) : b <= a := by
 rcases Zkx a b with h2 | h2
 . have := Zng (show a + 1 <= b from h2)
   simp only [Nat.blt, this] at h; cases h
 . exact h2
theorem Q6x (ys : List V) (v : V) (h : kGet ys = some v) : FzN Tryz.prog Qz 196 ys v := by
 unfold kGet at h
 split at h
 case h_2 => cases h
 rename_i x a k
 split at h
 case h_2 => cases h
 rename_i c n hc
 obtain ⟨hs, hn⟩ := slC_ok hc
 split at h
 case isFalse => cases h
 rename_i hak
 simp only [Zlm] at hak
 have ha := Zmy hak.1
 have hk := Zmy hak.2
 split at h
 . rename_i h1
   cases h
   have e : Qbq n a k [] = (0, 2) := by
    simp only [Zmi] at h1
    rcases h1 with h1 | h1 | h1
    . have := Znh h1
      simp [Qbq, this]
    . have := bltT h1
      have : ¬ k <= 4 := by omega
      simp [Qbq, this]
    . have := bltT h1
      simp [Qbq, this]
   have := Qji (k := .i64) (l := .i64) (a := ((Qbq n a k []).1 : Nat)) (b := ((Qbq n a k []).2 : Nat)) (Qq1 x c n hs (by omega) a k (by omega) (by omega) [] (fun h2 h3 => by
    have : k = 0 := by
     simp only [Zmi] at h1
     rcases h1 with h1 | h1 | h1
     . exact Znh h1
     . have := bltT h1; omega
     . have := bltT h1; omega
    subst this; rw [List.take_zero]; rfl))
   rw [e] at this
   exact this
 . rename_i h1
   simp only [Zmi, not_or, Bool.not_eq_true] at h1
   obtain ⟨h1, h2, h3⟩ := h1
   have k0 := beqF h1
   have k4 := bltF h2
   have an := bltF h3
   have k1 : 0 < k := by omega
   split at h
   . rename_i h4
     cases h
     have lt := bltT h4
     have lt' : n < a + k := lt
     have e : Qbq n a k [] = (0, 8) := by
      simp [Qbq, k1, k4, lt']; omega
     have := Qji (k := .i64) (l := .i64) (a := ((Qbq n a k []).1 : Nat)) (b := ((Qbq n a k []).2 : Nat)) (Qq1 x c n hs (by omega) a k (by omega) (by omega) [] (fun h2 h3 => by omega))
     rw [e] at this
     exact this
   . rename_i h4
     have h4' : ¬ n < a + k := by
      intro h5
      have : Nat.blt n (Nat.add a k) = true := Zng h5
      exact h4 this
     split at h
     case h_2 => cases h
     rename_i m hm
     cases h
     obtain ⟨p, hp, rfl⟩ := Qy8 hm
     have e : Qbq n a k p = (J7 p, 0) := by
      have a1 : ¬ n < a := by omega
      simp [Qbq, k1, k4, a1, h4']
     have := Qji (k := .i64) (l := .i64) (a := ((Qbq n a k p).1 : Nat)) (b := ((Qbq n a k p).2 : Nat)) (Qq1 x c n hs (by omega) a k (by omega) (by omega) p (fun _ _ => hp))
     rw [e] at this
     exact this
theorem Quj (n : Nat) : ∀ i, leB n (i + 1) = UInt8.ofNat n :: leB (n / 256) i
 | 0 => by simp [leB]
 | i + 1 => by
   rw [leB, Quj n i, leB]
   have : n / 256 ^ (i + 1) = n / 256 / 256 ^ i := by rw [Nat.pow_succ', Nat.div_div_eq_div_mul]
   rw [this]; rfl
theorem Qic : ∀ (k n : Nat), Qhk n k = Qc (leB n k)
 | 0, n => rfl
 | k + 1, n => by
   rw [Quj, Qhk, Qic k (Nat.div n 256)]
   have e : (UInt8.ofNat n).toNat = n % 256 := by rw [UInt8.toNat_ofNat']
   show V.int .u8 (Int.ofNat (n % 256)) :: Qc (leB (n / 256) k) = V.int .u8 ((UInt8.ofNat n).toNat : Int) :: Qc (leB (n / 256) k)
   rw [e]; rfl
end
section
set_option maxRecDepth 100000
open Go.AM Go.AM.BM
attribute [local irreducible] U W
theorem put_fz (n : Nat) (hn : n < 4294967296) : Fz Tryz.prog Qz 213 [.int .i64 n, .int .i64 4] fun r => r = .tuple [.iS (Qc (leB n 4)) 4 false, .int .i64 0] := by
 obtain ⟨r, H, h1, v0, rfl, _, h2⟩ := put_cw n 4 (by omega) (by decide)
 have e : Qmz n 4 = .tuple [.iS (Qc (leB n 4)) 4 false, .int .i64 0] := by
  have : ¬ 256 ^ 4 <= n := by omega
  simp [Qmz, this]
 exact ⟨v0, H, _, h1, h2, e⟩
theorem Q5b {l : List UInt8} (hl : l.length <= 1048576) : wok (Qal l) := by
 have ok := Qiu (l := Qag l (Kg l.length)) (j := (l.length + 1 + Kg l.length) / 8) (by rw [Qc0]; omega)
 exact Qj0 8 ⟨ok.1, Qc9 ok.2.1 (by omega), ok.2.2.1, ok.2.2.2⟩
def wi (x : W4) : Nat -> Nat
 | 0 => x.a
 | 1 => x.b
 | 2 => x.c
 | _ => x.d
theorem wi_lt {x : W4} (h : wok x) : ∀ i, wi x i < 4294967296
 | 0 => h.1
 | 1 => h.2.1
 | 2 => h.2.2.1
 | _ + 3 => h.2.2.2
def Qeu (x : W4) : Nat -> List UInt8
 | 0 => []
 | i + 1 => Qeu x i ++ leB (wi x i) 4
theorem Qge (x : W4) : ∀ i, (Qeu x i).length = 4 * i
 | 0 => rfl
 | i + 1 => by simp [Qeu, Qge x i, Qh1]; omega
def Qs6 (x : W4) : Nat -> V
 | 0 => .nS
 | i + 1 => .gS 0 21 (Qc (Qeu x (i + 1))) (4 * (i + 1)) 1
def keyH : Nat -> AM.Heap
 | 0 => [[]]
 | i + 1 => [[(21, .grow (4 * (i + 1)))]]
theorem Q6a {l : List UInt8} {f s n e : Nat} {g : Get} (h : g f s = some (.grow n)) (m : Nat) : frzN g (m + 2) (.gS f s (Qc l) n e) = some (.iS (Qc l) n false) := by
 have fl : Zb (frzN g (m + 1)) (Qc l) = some (Qc l) := Qdu _ _ _
 have e1 : frzN g (m + 2) (.gS f s (Qc l) n e) = (match g f s with
  | some (.grow k) => if k = n then (Zb (frzN g (m + 1)) (Qc l)).map fun cs => .iS cs n false else none
  | _ => none) := rfl
 rw [e1, h]
 simp only [if_true, fl, Zkw]
theorem Q3x (v : V) (l : List UInt8) (hv : Q1 v l) (hl : l.length <= 1048576) : CW Tryz.prog Qz 225 [v] [] fun r H => ∃ v0, r = .ret v0 /\ frzN (Qb H) depth v0 = some (.iS (Qc (Qeu (Qal l) 4)) 16 false) /\ frz (Qb H) depth v0 = some (.iS (Qc (Qeu (Qal l) 4)) 16 false) := by
 refine Xk Tryz.func225 rfl ?_
 obtain ⟨m, rfl, hm⟩ := (Qzi v l hv hl).op (by rfl) (Qt (hv.frz _) rfl)
 have hm' : ∀ s H, _ := fun s H => hm 225 0 s H rfl
 have ok := Q5b hl
 generalize Qal l = z at *
 simp only [Qn, Qh, Qg, Ql, Qa, Qd, nov, gd, rho, Qe, wr, simprocAttr, Qj, ↓Qi, Tryz.ntmps225, ta, new, Qb, hset, Qu, Qs, Qp, splice, zerosN, Qo, Qr, Qk, V.pure, Qq, hm']
 refine W.ul ?_
 refine W.loopS (kt := [3, 9, 10]) rfl (fun i : Nat => Qy7 (Qs6 z i) (.agg (wc z)) (.int .i64 i)) keyH (fun i => i <= 4) (fun i => 4 - i) ?_ 0 (Nat.zero_le _) rfl rfl
 intro i hi
 simp only [Qy7]
 by_cases h : i < 4
 . have c1 : decide ((i : Int) < 4) = true := by simp; omega
   have ix : Qd2 Tryz.prog 363 (.agg (wc z)) (.int .i64 i) = some (.int .u32 (wi z i)) := by
    have : i = 0 \/ i = 1 \/ i = 2 \/ i = 3 := by omega
    rcases this with rfl | rfl | rfl | rfl <;> (simp only [Qd2, Tryz.underlying363, Qsv]; rfl)
   have cv : ∀ g, convertV Tryz.prog g 57 3 (.int .u32 (wi z i)) = some (.val (.int .i64 (wi z i)) none) := fun g => by
    simp only [convertV, Tryz.underlying3, Tryz.underlying57]
    have := wi_lt ok i
    have : (IntKind.i64).wrap (wi z i : Int) = (wi z i : Int) := by rw [wrap_i64] <;> omega
    simp only [this]
   obtain ⟨m2, rfl, hm2⟩ := (put_fz (wi z i) (wi_lt ok i)).op (by rfl) rfl
   have hm2' : ∀ s H, _ := fun s H => hm2 225 0 s H rfl
   have w1 : (IntKind.i64).wrap ((i : Int) + 1) = ((i + 1 : Nat) : Int) := by rw [wrap_i64] <;> omega
   have mt : ∀ s, Qz.mt 225 s = false := fun s => rfl
   have ap : Zj Tryz.prog (Qz.mt 225) 0 (Qb (keyH i)) (some 21) 25 25 (Qs6 z i) (.iS (Qc (leB (wi z i) 4)) 4 false) = some (.val (Qs6 z (i + 1)) (some (0, 21, .grow (4 * (i + 1))))) := by
    have e2 : Qc (Qeu z (i + 1)) = Qc (Qeu z i) ++ Qc (leB (wi z i) 4) := by rw [Qeu, Yr]
    have sc : ∀ g, Qy g 1 (.iS (Qc (leB (wi z i) 4)) 4 false) = some (Qc (leB (wi z i) 4), 4) := fun g => by
     simp [Qy, Z5, Qh1]
    cases i with
    | zero =>
      rw [Qs6, Qs6, Qgg Tryz.underlying25 sz5 Qn5 zc5 rfl Tryz.underlying25 (sc _) (by omega) (by decide), Qcc (mt _) (Qax _) rfl, e2]
      rfl
    | succ i =>
      rw [Qs6, Qs6, Qe5 Tryz.underlying25 sz5 Qn5 zc5 rfl Tryz.underlying25 (sc _) (by omega) (Qa2 (by omega) (by omega)) (Qax _) (B8 _) rfl, e2, show 4 * (i + 1) + 4 = 4 * (i + 1 + 1) by omega]
   have hs2 : List.modify (keyH i) 0 (fun fr => Qs fr 21 (.grow (4 * (i + 1)))) = keyH (i + 1) := by cases i <;> rfl
   generalize Qs6 z i = S at *
   generalize keyH i = K at *
   simp only [Qn, Qh, Qg, Ql, Qa, Qd, nov, gd, rho, Qe, wr, simprocAttr, Qj, ↓Qi, ta, new, Qb, hset, Qu, Qs, Qp, splice, zerosN, Qo, Qr, Qk, V.pure, Qq, c1, ix, cv, hm2', mt, J9, ap, hs2, w1, Tryz.underlying25]
   exact W.done ⟨i + 1, rfl, rfl, h, by omega⟩
 . have hi4 : i = 4 := by omega
   subst hi4
   have c1 : decide (((4 : Nat) : Int) < 4) = false := rfl
   simp only [Qn, Qh, Qg, Ql, Qa, Qd, nov, gd, rho, Qe, wr, simprocAttr, Qj, ↓Qi, ta, new, Qb, hset, Qu, Qs, Qp, splice, zerosN, Qo, Qr, Qk, V.pure, Qq, c1]
   refine W.done ?_
   simp only [Qn, Qh, Qg, Ql, Qa, Qd, nov, gd, rho, Qe, wr, simprocAttr, Qj, ↓Qi, ta, new, Qb, hset, Qu, Qs, Qp, splice, zerosN, Qo, Qr, Qk, V.pure, Qq]
   refine W.done (End.ret (v := Qs6 z 4) rfl ⟨_, rfl, ?_, ?_⟩)
   . rw [Qat rfl]
     exact Q6a rfl 10
   . exact Qnr _ 10
theorem Q75 (ys : List V) (v : V) (h : kKey ys = some v) : FzN Tryz.prog Qz 225 ys v := by
 unfold kKey at h
 split at h
 case h_2 => cases h
 rename_i x
 split at h
 case h_2 => cases h
 rename_i c hc
 cases h
 obtain ⟨l, rfl, hb, hl⟩ := Qdp hc
 obtain ⟨r, H, e1, v0, rfl, e2, _⟩ := Q3x x l hb hl
 have e : keyC (Qk2 (Qc l)) = Qc (Qeu (Qal l) 4) := by
  rw [Qrj]
  simp only [keyC, Qeu, Qic, Yr, Znj, wi]
  rfl
 rw [e]
 exact ⟨_, _, e1, e2⟩
end
section
set_option maxRecDepth 100000
open Go.AM Go.AM.BM
attribute [local irreducible] U W
def b8 (x : Int) : UInt8 := UInt8.ofNat (x % 256).toNat
theorem Q55 (x : Int) : (IntKind.u8).wrap x = (((b8 x).toNat : Nat) : Int) := by
 have e : (IntKind.u8).wrap x = x % 256 := by
  simp only [IntKind.wrap, IntKind.bits, IntKind.signed, Zni, Zkz, if_false]; omega
 have h : (x % 256).toNat < 256 := by omega
 have e2 : (b8 x).toNat = (x % 256).toNat := by
  simp only [b8, UInt8.toNat_ofNat']; omega
 rw [e, e2]; omega
noncomputable def onB (lf pl : Int) (v : List UInt8) (n : Int) : List UInt8 := Qeu (Qal (v ++ [b8 lf, b8 pl, b8 n])) 4
noncomputable def Qoy (lf pl a : Int) (v : List UInt8) : Nat -> List UInt8
 | 0 => v
 | j + 1 => onB lf pl (Qoy lf pl a v j) (a + j)
theorem Qyo (lf pl : Int) (v : List UInt8) (n : Int) : (onB lf pl v n).length = 16 := Qge _ 4
theorem key_fz (v : V) (l : List UInt8) (hv : Q1 v l) (hl : l.length <= 1048576) : Fz Tryz.prog Qz 225 [v] fun x => x = .iS (Qc (Qeu (Qal l) 4)) 16 false := by
 refine Fz.of_cw ((Q3x v l hv hl).mono ?_)
 rintro r H ⟨v0, rfl, _, h⟩
 exact ⟨v0, rfl, _, h, rfl⟩
theorem Qva (lf pl a : Int) (v : List UInt8) (hv : v.length = 16) : ∀ j, (Qoy lf pl a v j).length = 16
 | 0 => hv
 | j + 1 => Qyo _ _ _ _
theorem on_cw (lf pl : Int) (v : List UInt8) (hv : v.length = 16) (a b : Int) (ha : 0 <= a) (hb : b <= 1000000) : CW Tryz.prog Qz 387 [.agg (Qc v), .agg [.int .i64 lf, .int .i64 pl], .int .i64 a, .int .i64 b] [] fun r _ => r = .ret (.agg (Qc (Qoy lf pl a v (b - a).toNat))) := by
 refine Xk Tryz.func387 rfl ?_
 have cl : (Qc v).length = 16 := by rw [Z5, hv]
 have scs : (Qc v).all V.scalar = true := B8 v
 simp only [Qn, Qh, Qg, Ql, Qa, Qd, nov, gd, rho, Qe, wr, simprocAttr, Qj, ↓Qi, Tryz.ntmps387, ta, new, Qb, hset, Qu, Qs, Qp, splice, zerosN, Qo, Qr, Qk, V.pure, Qq, cl, scs]
 refine W.ul ?_
 refine W.loop (fun (j : Nat) t H => ∃ F : AM.Frame, Bi [3, 4, 5, 8, 9] t 0 = Qzl (.int .i64 b) (.ptr 0 4 0) (.ptr 0 5 0) (.ptr 0 8 0) (.int .i64 (a + j)) /\ j <= (b - a).toNat /\ H = [F] /\ J8 (fun s => [25, 26].contains s) F = [(4, .cells (Qc (Qoy lf pl a v j))), (5, .cells [.int .i64 lf, .int .i64 pl]), (8, .cells (zerosN [.int .u8 0] 16))]) (fun j => (b - a).toNat - j) ?_ 0 ⟨_, by simp only [Int.natCast_zero, Int.add_zero]; rfl, Nat.zero_le _, rfl, rfl⟩
 rintro j t H ⟨F, ht, hj, rfl, hF⟩
 have hd : ([F] : Heap).modify 0 (J8 fun s => [25, 26].contains s) = [[(4, .cells (Qc (Qoy lf pl a v j))), (5, .cells [.int .i64 lf, .int .i64 pl]), (8, .cells (zerosN [.int .u8 0] 16))]] := by
  rw [<- hF]; rfl
 have ol := Qva lf pl a v hv j
 have ocl : (Qc (Qoy lf pl a v j)).length = 16 := by rw [Z5, ol]
 have hu : Qoy lf pl a v (j + 1) = onB lf pl (Qoy lf pl a v j) (a + j) := rfl
 have hz0 := hu
 generalize huu : Qoy lf pl a v j = u at *
 have usc : (Qc u).all V.scalar = true := B8 u
 have ud : (Qc u).drop 16 = [] := Zl2 (by omega)
 have ut : (Qc u).take 16 = Qc u := Znn (by omega)
 refine ⟨_, _, J4 (kt := [3, 4, 5, 8, 9]) (ds := [25, 26]) rfl ?_ ?_, ?_⟩
 . rw [ht]; rfl
 . rw [hd]
   have nz : ∀ q, Qx q (zerosN [.int .u8 0] 16) = false := fun q => rfl
   have nu : ∀ q, Qx q (Qc u) = false := fun q => Qhd q u
   simp only [Zh, Zo, O.refs, Qx, V.refs, nz, nu]; rfl
 rw [ht, hd]
 simp only [Qzl]
 have zn : zerosN [V.int .u8 0] 16 = List.replicate 16 (V.int .u8 0) := rfl
 generalize zerosN [V.int .u8 0] 16 = Z at *
 have slv : Z4 Tryz.prog (Qb [[(4, .cells (Qc u)), (5, .cells [.int .i64 lf, .int .i64 pl]), (8, .cells Z)]]) 467 (.ptr 0 4 0) none none none = some (.mS 0 4 0 16 (some 16) 1) := by
  have on : Bb none = some none := rfl
  have hg : Qb [[(4, O.cells (Qc u)), (5, .cells [.int .i64 lf, .int .i64 pl]), (8, .cells Z)]] 0 4 = some (.cells (Qc u)) := rfl
  simp only [Z4, on, Tryz.underlying467, sz5, hg, ocl]
  rfl
 have cv : ∀ g x, convertV Tryz.prog g 3 5 (.int .i64 x) = some (.val (.int .u8 (((b8 x).toNat : Nat) : Int)) none) := fun g x => by
  simp only [convertV, Tryz.underlying3, Tryz.underlying5, Q55]
 by_cases h : j < (b - a).toNat
 . have c1 : decide (a + (j : Int) < b) = true := Znv (by omega)
   have w1 : (IntKind.i64).wrap (a + (j : Int) + 1) = a + ((j + 1 : Nat) : Int) := by rw [wrap_i64] <;> omega
   have mt25 : Qz.mt 387 25 = false := rfl
   have mt26 : Qz.mt 387 26 = false := rfl
   generalize hw : u ++ [b8 lf, b8 pl, b8 (a + j)] = w
   have wl : w.length = 19 := by rw [<- hw]; simp [ol]
   have ap : Zj Tryz.prog (Qz.mt 387) 0 (Qb [[(4, .cells (Qc u)), (5, .cells [.int .i64 lf, .int .i64 pl]), (8, .cells Z)]]) (some 26) 25 25 (.mS 0 4 0 16 (some 16) 1) (.iS [.int .u8 (b8 lf).toNat, .int .u8 (b8 pl).toNat, .int .u8 (b8 (a + j)).toNat] 3 true) = some (.val (.gS 0 26 (Qc w) 19 1) (some (0, 26, .grow 19))) := by
    have hg : Qb [[(4, O.cells (Qc u)), (5, .cells [.int .i64 lf, .int .i64 pl]), (8, .cells Z)]] 0 4 = some (.cells (Qc u)) := rfl
    have sc : ∀ g, Qy g 1 (.iS [.int .u8 (b8 lf).toNat, .int .u8 (b8 pl).toNat, .int .u8 (b8 (a + j)).toNat] 3 true) = some ([.int .u8 (b8 lf).toNat, .int .u8 (b8 pl).toNat, .int .u8 (b8 (a + j)).toNat], 3) := fun g => by simp [Qy]
    have ew : Qc w = Qc u ++ [.int .u8 (b8 lf).toNat, .int .u8 (b8 pl).toNat, .int .u8 (b8 (a + j)).toNat] := by rw [<- hw, Yr]; rfl
    simp only [Zj, Tryz.underlying25, sz5, Qn5, zc5, Y8, sc, appendTo, hg]
    have hn : Qb [[(4, O.cells (Qc u)), (5, .cells [.int .i64 lf, .int .i64 pl]), (8, .cells Z)]] 0 26 = none := rfl
    have r1 : Yw (16 + (2 + 1)) 1 = true := rfl
    have tk : (Qc u).take 16 = Qc u := Znn (by omega)
    rw [ew]
    simp [r1, ocl, grown, mt26, new, hn, tk, Qax, Qk, V.pure]
   obtain ⟨m, rfl, hm⟩ := (key_fz (.iS (Qc w) 19 false) w (by have := Q1.mk w false; rwa [wl] at this) (by omega)).op' (args := [.gS 0 26 (Qc w) 19 1]) (by rfl) (Qt (Qnr _ _) rfl)
   have hm1 : ∀ s H, _ := fun s H => hm 387 0 s H rfl
   have hz : onB lf pl u (a + j) = Qeu (Qal w) 4 := by rw [onB, hw]
   have zl : (Qeu (Qal w) 4).length = 16 := Qge _ 4
   generalize Qeu (Qal w) 4 = z at *
   have zcl : (Qc z).length = 16 := by rw [Z5, zl]
   have zsc : (Qc z).all V.scalar = true := B8 z
   have zt : (Qc z).take 16 = Qc z := Znn (by omega)
   simp only [Qn, Qh, Qg, Ql, Qa, Qd, nov, gd, rho, Qe, wr, simprocAttr, Qj, ↓Qi, ta, new, Qb, hset, Qu, Qs, Qp, splice, zerosN, Qo, Qr, Qk, V.pure, Qq, c1, ocl, w1, cv, slv, Tryz.underlying467, zcl, zsc, zt, mt25, mt26, J9, ap, hm1, Tryz.underlying25, sz5, zc5, List.drop_succ_cons, Zm4, Zmz, List.take_zero, Zmj, Zmm, Zld, Zml, and_self, if_true]
   refine W.opsK1 (by kernel_rfl) fun _ => ?_
   simp only [Qn, Qh, Qg, Ql, Qa, Qd, nov, gd, rho, Qe, wr, simprocAttr, Qj, ↓Qi, ta, new, Qb, hset, Qu, Qs, Qp, splice, zerosN, Qo, Qr, Qk, V.pure, Qq, c1, w1]
   exact W.done ⟨j + 1, ⟨_, rfl, by omega, rfl, by rw [hz0, hz, ud, Zma]; rfl⟩, by omega⟩
 . have c1 : decide (a + (j : Int) < b) = false := Znw (by omega)
   have hj' : j = (b - a).toNat := by omega
   simp only [Qn, Qh, Qg, Ql, Qa, Qd, nov, gd, rho, Qe, wr, simprocAttr, Qj, ↓Qi, ta, new, Qb, hset, Qu, Qs, Qp, splice, zerosN, Qo, Qr, Qk, V.pure, Qq, c1]
   refine W.done ?_
   have Zl : Z.length = 16 := by rw [zn]; rfl
   have Zd : Z.drop 16 = [] := Zl2 (by omega)
   have hr : Q0 Tryz.prog 467 (Qc u) 0 = some (.agg (Qc u)) := by rw [rd467, if_pos (by omega), Zm4, ut]
   simp only [Qn, Qh, Qg, Ql, Qa, Qd, nov, gd, rho, Qe, wr, simprocAttr, Qj, ↓Qi, ta, new, Qb, hset, Qu, Qs, Qp, splice, zerosN, Qo, Qr, Qk, V.pure, Qq, ocl, usc, ut, Zl, Zd, Zma]
   refine W.done (End.ret (v := .agg (Qc u)) ?_ (by rw [<- hj', huu]))
   show (match (match Q0 Tryz.prog 467 (Qc u) 0, (some [] : Option (List V)) with | some v, some vs => some (v :: vs) | _, _ => none) with | some [v] => some v | some vs => some (.tuple vs) | none => none) = _
   rw [hr]
end
section
set_option maxRecDepth 100000
open Go.AM Go.AM.BM
theorem keyC_B (l : List UInt8) : keyC (Qk2 (Qc l)) = Qc (Qeu (Qal l) 4) := by
 rw [Qrj]
 simp only [keyC, Qeu, Qic, Yr, Znj, wi]
 rfl
theorem Qwe (n : Nat) : (b8 (Int.ofNat n)).toNat = Nat.mod n 256 := by
 have e : ((Int.ofNat n) % 256).toNat = n % 256 := by
  show (((n : Nat) : Int) % 256).toNat = n % 256
  omega
 show (UInt8.ofNat ((Int.ofNat n) % 256).toNat).toNat = n % 256
 rw [e, UInt8.toNat_ofNat']
 omega
theorem onS_B (lf pl n : Nat) (u : List UInt8) : onS lf pl n (Qc u) = Qc (onB (Int.ofNat lf) (Int.ofNat pl) u (Int.ofNat n)) := by
 have e3 : Qc [b8 (Int.ofNat lf), b8 (Int.ofNat pl), b8 (Int.ofNat n)] = [V.int .u8 (Int.ofNat (Nat.mod lf 256)), .int .u8 (Int.ofNat (Nat.mod pl 256)), .int .u8 (Int.ofNat (Nat.mod n 256))] := by
  show [V.int .u8 ((b8 (Int.ofNat lf)).toNat : Nat), V.int .u8 ((b8 (Int.ofNat pl)).toNat : Nat), V.int .u8 ((b8 (Int.ofNat n)).toNat : Nat)] = _
  rw [Qwe, Qwe, Qwe]
  rfl
 unfold onS
 rw [<- e3, <- Yr]
 unfold onB
 rw [<- keyC_B]
 generalize Qk2 (Qc (u ++ [b8 (Int.ofNat lf), b8 (Int.ofNat pl), b8 (Int.ofNat n)])) = x
 simp only [Qix]
attribute [local irreducible] onS
theorem onI_B (lf pl a : Nat) (w : List UInt8) : ∀ k : Nat, onI lf pl a (Qc w) k = Qc (Qoy (Int.ofNat lf) (Int.ofNat pl) (Int.ofNat a) w k)
 | 0 => rfl
 | k + 1 => by
   have ih := onI_B lf pl a w k
   have e : onI lf pl a (Qc w) (k + 1) = onS lf pl (Nat.add a k) (onI lf pl a (Qc w) k) := rfl
   rw [e, ih, onS_B]
   rfl
theorem kOn_fz (ys : List V) (v : V) (h : kOn ys = some v) : FzN Tryz.prog Qz 387 ys v := by
 unfold kOn at h
 split at h
 case h_2 => cases h
 rename_i l lf pl a b
 split at h
 case h_2 => cases h
 rename_i c hc
 obtain ⟨w, rfl, hb, _⟩ := Qdp hc
 obtain ⟨hl, ⟨h0, _⟩ | ⟨f, h1⟩⟩ := hb
 . cases h0
 injection h1 with h2 h3 h4
 subst h2
 cases hk : Nat.ble b (nat_lit 1000000)
 . rw [hk] at h; cases h
 . rw [hk] at h
   cases h
   have hb' : b <= 1000000 := Zmy hk
   obtain ⟨r, H, e1, rfl⟩ := on_cw (Int.ofNat lf) (Int.ofNat pl) w h3.symm (Int.ofNat a) (Int.ofNat b) (Int.natCast_nonneg a) (by show ((b : Nat) : Int) <= 1000000; omega)
   have e2 : (Int.ofNat b - Int.ofNat a).toNat = Nat.sub b a := by
    show (((b : Nat) : Int) - ((a : Nat) : Int)).toNat = b - a
    omega
   refine ⟨_, _, e1, ?_⟩
   rw [e2, onI_B]
   show Option.map V.agg (Zb (frzN _ 11) (Qc _)) = _
   rw [Qdu]; rfl
end
section
set_option maxRecDepth 100000
open Go.AM
attribute [local irreducible] U W
theorem Qqw {x y : Operand} (p q : Kl) : Z1 Tryz.prog .eql 61 x y (.agg p.cells) (.agg q.cells) = some (.bool (decide (p = q))) := by
 have hg : (Tryz.prog).eqGuardType (Tryz.prog).depth 61 = false := by kernel_rfl
 have hs : (Tryz.prog).stoodInHeld 61 = false := by kernel_rfl
 obtain ⟨p1, p2, p3, p4, p5⟩ := p
 obtain ⟨q1, q2, q3, q4, q5⟩ := q
 have e : decide ((⟨p1, p2, p3, p4, p5⟩ : Kl) = ⟨q1, q2, q3, q4, q5⟩) = (p1 == q1 && (p2 == q2 && (p3 == q3 && (p4 == q4 && p5 == q5)))) := by
  rw [Bool.eq_iff_iff]; simp
 rw [e]
 simp only [Kl.cells, Z1, Qjf, Tryz.underlying61, hg, eqV, hs, Qb2, Qbl, Tryz.underlying3, Tryz.underlying57, sz3, Qsv, Qlf, Qtu]
 have n1 : ("At" = "_") = False := by decide
 have n2 : ("Birth" = "_") = False := by decide
 have n3 : ("Iv" = "_") = False := by decide
 have n4 : ("Tag" = "_") = False := by decide
 have n5 : ("Sum" = "_") = False := by decide
 simp only [n1, n2, n3, n4, n5, if_false, Zkz, List.getElem?_cons_zero, List.getElem?_cons_succ, if_true]
 cases p1 == q1 <;> cases p2 == q2 <;> cases p3 == q3 <;> cases p4 == q4 <;> cases p5 == q5 <;> rfl
theorem Qck (p : Kl) : Fz Tryz.prog Qz 33 [.agg p.cells] fun x => x = .int .i64 (okE (Qhe p)) := by
 refine Jy Tryz.func33 rfl ?_
 have e0 : ∀ x y, Z1 Tryz.prog .eql 61 x y (.agg p.cells) (.agg Qec.cells) = _ := fun x y => Qqw p Qec
 obtain ⟨a, b, c, d, e⟩ := p
 simp only [Kl.cells, Qec] at e0
 simp only [Kl.cells]
 simp only [Qn, Qh, Qg, Ql, Qa, Qd, nov, gd, rho, Qe, wr, simprocAttr, Qj, ↓Qi, Tryz.ntmps33, ta, new, Qb, hset, Qu, Qs, Qp, splice, zerosN, Qo, Qr, Qk, V.pure, Qq, e0]
 repeat' ((first | refine W.guardF ?_ ?_ | refine W.guardT ?_ ?_ | refine W.guardXF ?_ ?_ | refine W.guardXT ?_ ?_ | refine W.ite ?_ ?_ | refine W.opsK1 (by kernel_rfl) ?_) <;> intro h <;> simp only [Qn, Qh, Qg, Ql, Qa, Qd, nov, gd, rho, Qe, wr, simprocAttr, Qj, ↓Qi, h, ta, new, Qb, hset, Qu, Qs, Qp, splice, zerosN, Qo, Qr, Qk, V.pure, Qq])
 all_goals refine W.done (Zx.ret rfl rfl ?_)
 all_goals first | rfl | (simp only [okE, Qhe, Q5d, Qec, *, Jz, if_true, if_false]; try rfl)
/-! ### Numbers held against each other -/
theorem Qvm (a : Int) : Fz Tryz.prog Qz 131 [.int .i64 a] fun x => x = .bool false := by
 refine Jy Tryz.func131 rfl ?_
 have e : (a != a) = false := by simp
 simp only [Qn, Qh, Qg, Ql, Qa, Qd, nov, gd, rho, Qe, wr, simprocAttr, Qj, ↓Qi, Tryz.ntmps131, ta, new, Qb, hset, Qu, Qs, Qp, splice, zerosN, Qo, Qr, Qk, V.pure, Qq, e]
 exact W.done (Zx.ret rfl rfl rfl)
theorem Xr (a b : Int) : Fz Tryz.prog Qz 74 [.int .i64 a, .int .i64 b] fun x => x = .int .i64 (Qao a b) := by
 refine Jy Tryz.func74 rfl ?_
 obtain ⟨m, rfl, hm⟩ := (Qvm a).op (by rfl) rfl
 have hm1 : ∀ s H, _ := fun s H => hm 74 0 s H rfl
 obtain ⟨m, rfl, hm⟩ := (Qvm b).op (by rfl) rfl
 have hm2 : ∀ s H, _ := fun s H => hm 74 0 s H rfl
 simp only [Qn, Qh, Qg, Ql, Qa, Qd, nov, gd, rho, Qe, wr, simprocAttr, Qj, ↓Qi, Tryz.ntmps74, ta, new, Qb, hset, Qu, Qs, Qp, splice, zerosN, Qo, Qr, Qk, V.pure, Qq, hm1, hm2]
 repeat' ((first | refine W.guardF ?_ ?_ | refine W.guardT ?_ ?_ | refine W.guardXF ?_ ?_ | refine W.guardXT ?_ ?_ | refine W.ite ?_ ?_ | refine W.opsK1 (by kernel_rfl) ?_) <;> intro h <;> simp only [Qn, Qh, Qg, Ql, Qa, Qd, nov, gd, rho, Qe, wr, simprocAttr, Qj, ↓Qi, h, ta, new, Qb, hset, Qu, Qs, Qp, splice, zerosN, Qo, Qr, Qk, V.pure, Qq])
 all_goals refine W.done (Zx.ret rfl rfl ?_)
 all_goals first | rfl | (simp only [Qao, *, Jz, if_true, if_false]; try rfl)
theorem or_fz (v : V) (l : List Int) (hv : Bu v l) (hl : l.length <= 1000) : Fz Tryz.prog Qz 75 [v] fun x => x = .int .i64 (Qko l) := by
 refine Jy Tryz.func75 rfl ?_
 have len := hv.len Tryz.underlying46
 simp only [Qn, Qh, Qg, Ql, Qa, Qd, nov, gd, rho, Qe, wr, simprocAttr, Qj, ↓Qi, Tryz.ntmps75, ta, new, Qb, hset, Qu, Qs, Qp, splice, zerosN, Qo, Qr, Qk, V.pure, Qq, len]
 refine W.ul ?_
 refine W.loopS (kt := [3, 6, 7, 8]) rfl (fun i : Nat => Q30 (.int .i64 0) v (.int .i64 l.length) (.int .i64 i)) (fun _ => [[]]) (fun i => i <= l.length /\ Qko (l.drop i) = Qko l) (fun i => l.length - i) ?_ 0 ⟨by omega, rfl⟩ rfl rfl
 rintro i ⟨hi, hR⟩
 simp only [Q30]
 by_cases h : i < l.length
 . have c1 : decide ((i : Int) < l.length) = true := Znv (by omega)
   have at1 := hv.at (k := .i64) Tryz.underlying46 sz3 (by decide) (i := (i : Int)) (by omega) (by omega)
   have g1 : (Q3 l)[(i : Int).toNat * 1]? = some (.int .i64 l[i]) := by simp [h, Q3]
   have g1' : (Q3 l)[(i : Int).toNat]? = some (.int .i64 l[i]) := by simp [h, Q3]
   have w1 : (IntKind.i64).wrap ((i : Int) + 1) = ((i + 1 : Nat) : Int) := by rw [wrap_i64] <;> omega
   have hd : Qko (l.drop i) = if l[i] != 0 then l[i] else Qko (l.drop (i + 1)) := by rw [Znm h]; rfl
   simp only [Qn, Qh, Qg, Ql, Qa, Qd, nov, gd, rho, Qe, wr, simprocAttr, Qj, ↓Qi, c1, at1, rd3, g1, g1', ta, new, Qb, hset, Qu, Qs, Qp, splice, zerosN, Qo, Qr, Qk, V.pure, Qq]
   refine W.ite ?_ ?_ <;> intro h2 <;> simp only [Qn, Qh, Qg, Ql, Qa, Qd, nov, gd, rho, Qe, wr, simprocAttr, Qj, ↓Qi, ta, new, Qb, hset, Qu, Qs, Qp, splice, zerosN, Qo, Qr, Qk, V.pure, Qq, w1]
   . refine W.done ?_
     simp only [Qn, Qh, Qg, Ql, Qa, Qd, nov, gd, rho, Qe, wr, simprocAttr, Qj, ↓Qi]
     refine W.done (Zx.ret rfl rfl ?_)
     rw [<- hR, hd, h2]; rfl
   . refine W.done ⟨i + 1, rfl, rfl, ⟨by omega, ?_⟩, by omega⟩
     rw [<- hR, hd, h2]; rfl
 . have c1 : decide ((i : Int) < l.length) = false := Znw (by omega)
   simp only [Qn, Qh, Qg, Ql, Qa, Qd, nov, gd, rho, Qe, wr, simprocAttr, Qj, ↓Qi, c1]
   refine W.done ?_
   simp only [Qn, Qh, Qg, Ql, Qa, Qd, nov, gd, rho, Qe, wr, simprocAttr, Qj, ↓Qi]
   refine W.done (Zx.ret rfl rfl ?_)
   rw [<- hR, Zm2 (by omega)]; rfl
theorem Qs4 (p q : Kl) : Fz Tryz.prog Qz 129 [.agg p.cells, .agg q.cells] fun x => x = .int .i64 (Qao p.at_ q.at_) := by
 refine Jy Tryz.func129 rfl ?_
 obtain ⟨a, b, c, d, e⟩ := p
 obtain ⟨a', b', c', d', e'⟩ := q
 simp only [Kl.cells]
 obtain ⟨m, rfl, hm⟩ := (Xr a a').op (by rfl) rfl
 have hm1 : ∀ s H, _ := fun s H => hm 129 0 s H rfl
 simp only [Qn, Qh, Qg, Ql, Qa, Qd, nov, gd, rho, Qe, wr, simprocAttr, Qj, ↓Qi, Tryz.ntmps129, ta, new, Qb, hset, Qu, Qs, Qp, splice, zerosN, Qo, Qr, Qk, V.pure, Qq, hm1]
 exact W.done (Zx.ret rfl rfl rfl)
end
end Go.Proofs.YteagpfbdmiihaaaGreatDoor
