/- This file holds in one the texts DG, DH, DS, DS2; each says at its head what it proves. -/
import Derived.Test.YteagpfbdmiihaaaGreatDoorT20
import Derived.Test.YteagpfbdmiihaaaGreatDoorT27
import Derived.Test.YteagpfbdmiihaaaGreatDoorT28
import Derived.Test.YteagpfbdmiihaaaGreatDoorT29
set_option linter.unusedSimpArgs false
set_option linter.unusedVariables false
namespace Go.Proofs.YteagpfbdmiihaaaGreatDoor
section
set_option maxRecDepth 100000
open Go.AM
attribute [local irreducible] U W
theorem Q50 (v : V) (l : List UInt8) (hv : Q1 v l) : Fz Tryz.prog Qz 295 [v] fun r => r = .func (.func 391) [] [.iptr [v] 0] := by
 refine Jy Tryz.func295 rfl ?_
 have c1 := hv.cells1
 simp only [Qn, Qh, Qg, Ql, Qa, Qd, nov, gd, rho, Qe, wr, simprocAttr, Qj, ↓Qi, Tryz.ntmps295, ta, new, Qb, hset, Qu, Qs, Qp, splice, zerosN, Qo, Qr, Qk, V.pure, Qq, c1]
 have hf : frz (Qb [[(1, O.cells [v])]]) depth (.func (.func 391) [] [.ptr 0 1 0]) = some (.func (.func 391) [] [.iptr [v] 0]) := by
  have e := hv.frz (g := Qb [[(1, O.cells [v])]]) 9
  have e1 : frz (Qb [[(1, O.cells [v])]]) 11 (.ptr 0 1 0) = some (.iptr [v] 0) := by
   show (Zb (frz (Qb [[(1, O.cells [v])]]) 10) [v]).map _ = _
   rw [Qt e rfl]; rfl
  show (match Zb (frz _ 11) [], Zb (frz _ 11) [.ptr 0 1 0] with | some a, some b => some (V.func _ a b) | _, _ => none) = _
  rw [Qt e1 rfl]; rfl
 exact W.done (Zx.ret (v := .func (.func 391) [] [.ptr 0 1 0]) rfl hf rfl)
theorem Q3s (v : V) (l : List UInt8) (hv : Q1 v l) (hl : l.length <= 281474976710656) (fo so : Nat) (HS : Nat -> Heap) (hlen : ∀ i, (HS i).length = (HS l.length).length) (hw : WF (HS 0))
 (step : ∀ i (h : i < l.length), Q5 Tryz.prog Qz none [.yield fo so, .int .i64 i, .int .u8 l[i].toNat] (HS (i + 1) ++ [[]]) = some (.ret (.bool true), HS i ++ [[]])) :
 CW Tryz.prog Qz 391 [.yield fo so, .iptr [v] 0] (HS l.length) fun r H' => r = .ret (.tuple []) /\ H' = HS 0 := by
 refine Xk Tryz.func391 rfl ?_
 have len := hv.len Tryz.underlying25
 have w0 : (IntKind.i64).wrap ((l.length : Int) - 1) = (l.length : Int) - 1 := by rw [wrap_i64] <;> omega
 simp only [Qn, Qh, Qg, Ql, Qa, Qd, nov, gd, rho, Qe, wr, simprocAttr, Qj, ↓Qi, Tryz.ntmps391, ta, new, Qb, hset, Qu, Qs, Qp, splice, zerosN, Qo, Qr, Qk, V.pure, Qq, len, w0]
 refine W.ul ?_
 refine W.loopS (kt := [0, 1, 3]) rfl (fun i : Nat => Qsl (.yield fo so) (.iptr [v] 0) (.int .i64 ((i : Int) - 1))) (fun i => HS i ++ [[]]) (fun i => i <= l.length) (fun i => i) ?_ l.length (Zk0 _) rfl rfl
 intro j hj
 cases j with
 | zero =>
   have c1 : decide ((((0 : Nat) : Int) - 1) >= 0) = false := rfl
   simp only [Qsl]
   simp only [Qn, Qh, Qg, Ql, Qa, Qd, nov, gd, rho, Qe, wr, simprocAttr, Qj, ↓Qi, c1]
   refine W.done ?_
   simp only [Qn, Qh, Qg, Ql, Qa, Qd, nov, gd, rho, Qe, wr, simprocAttr, Qj, ↓Qi]
   refine W.done (End.normal (v := .tuple []) rfl ⟨rfl, ?_⟩)
   have := Qap (H := HS 0) (G := [[]]) (v := .tuple []) rfl hw
   rw [hlen] at this
   exact this
 | succ i =>
   have e : ((i + 1 : Nat) : Int) - 1 = i := by omega
   have c1 : decide ((i : Int) >= 0) = true := by simp
   have at1 := hv.at (k := .i64) Tryz.underlying25 sz5 (by decide) (i := (i : Int)) (by omega) (by omega)
   have get1 : (Qc l)[(i : Int).toNat * 1]? = some (.int .u8 l[i].toNat) := by
    have : i < l.length := hj
    simp [Qa6, this]
   have get1' : (Qc l)[(i : Int).toNat]? = some (.int .u8 l[i].toNat) := by simpa using get1
   have st := step i hj
   have w1 : (IntKind.i64).wrap ((i : Int) - 1) = (i : Int) - 1 := by rw [wrap_i64] <;> omega
   simp only [Qsl, e]
   simp only [Qn, Qh, Qg, Ql, Qa, Qd, nov, gd, rho, Qe, wr, simprocAttr, Qj, ↓Qi, ta, new, Qb, hset, Qu, Qs, Qp, splice, zerosN, Qo, Qr, Qk, V.pure, Qq, c1, len, at1, get1, get1', rd5, st, Qjb, Qxv, w1]
   exact W.done ⟨i, rfl, rfl, by omega, by omega⟩
theorem Qvy (k : Nat) : Fz Tryz.prog Qz 294 [.int .i64 k] fun r => r = .bool (decide (0 < k) && decide (k <= 4)) := by
 refine Jy Tryz.func294 rfl ?_
 have c1 : decide ((k : Int) > 0) = decide (0 < k) := by simp
 have c2 : decide ((k : Int) <= 4) = decide (k <= 4) := by simp; omega
 simp only [Qn, Qh, Qg, Ql, Qa, Qd, nov, gd, rho, Qe, wr, simprocAttr, Qj, ↓Qi, Tryz.ntmps294, ta, new, Qb, hset, Qu, Qs, Qp, splice, zerosN, Qo, Qr, Qk, V.pure, Qq, c1, c2]
 cases h : decide (0 < k) with
 | true =>
   simp only [Qn, Qh, Qg, Ql, Qa, Qd, nov, gd, rho, Qe, wr, simprocAttr, Qj, ↓Qi]
   exact W.done (Zx.ret rfl rfl (by simp; omega))
 | false =>
   simp only [Qn, Qh, Qg, Ql, Qa, Qd, nov, gd, rho, Qe, wr, simprocAttr, Qj, ↓Qi]
   exact W.done (Zx.ret rfl rfl (by simp))
def J7 : List UInt8 -> Nat
 | [] => 0
 | b :: r => b.toNat + 256 * J7 r
theorem Qlm : ∀ l : List UInt8, J7 l < 256 ^ l.length
 | [] => by decide
 | b :: r => by
   have := Qlm r
   have hb := UInt8.toNat_lt b
   simp only [J7, Zld, Nat.pow_succ]
   omega
def getR (l : List UInt8) (at_ k : Nat) : Nat × Nat :=
 if !(decide (0 < k) && decide (k <= 4)) || decide (l.length < at_) then (0, 2) else if l.length < at_ + k then (0, 8) else (J7 ((l.drop at_).take k), 0)
theorem Qzr {n : Nat} (h : 1 <= n) {s r f x : Nat} {T : List V} {G : AM.Heap} (hr : Qx (fun f _ => Nat.ble 1 f) T = false) {o : AM.O} (ho : o.refs (fun f _ => Nat.ble 1 f) = false) (hG : G = [[]] \/ G = []) : WF ([[(s, o), (r, .loop 0 none f x T)]] ++ G) := by
 have h1 : Zh (fun f _ => Nat.ble 1 f) [[(s, o), (r, .loop 0 none f x T)]] = true := by
  have h0 : (O.loop 0 none f x T).refs (fun f _ => Nat.ble 1 f) = false := hr
  simp only [Zh, Zo, ho, h0]; rfl
 have h2 : WF [[(s, o), (r, O.loop 0 none f x T)]] := h1
 rcases hG with rfl | rfl
 . exact h2.app rfl
 . exact h2
theorem Q1k (p : List UInt8) (n : Nat) (hn : J7 p < 4294967296) (T : List V) (hT : T.length = 43) (h8 : T.getD 8 .bad = .ptr 0 8 0) (hr : Qx (fun f _ => Nat.ble 1 f) T = false) (i : Nat) (hi : i < p.length) (hnl : J7 (p.drop i) < 4294967296) :
 Q5 Tryz.prog Qz none [.yield 0 1000009, .int .i64 i, .int .u8 p[i].toNat] ([[(8, .cells [.int .i64 (J7 (p.drop (i + 1)))]), (1000009, .loop 0 none 196 9 T)]] ++ [[]]) = some (.ret (.bool true), [[(8, .cells [.int .i64 (J7 (p.drop i))]), (1000009, .loop 0 none 196 9 T)]] ++ [[]]) := by
 obtain ⟨r, H3, h1, rfl, rfl⟩ := Qt7 (P := Tryz.prog) (pol := Qz) (fo := 0) (so := 1000009) (args := [.int .i64 i, .int .u8 p[i].toNat]) (H := [[(8, .cells [.int .i64 (J7 (p.drop (i + 1)))]), (1000009, .loop 0 none 196 9 T)], []]) (p := none) (fL := 196) (rid := 9) (t0 := T)
  (R := fun r H3 => r = .ret (.bool true) /\ H3 = [[(8, .cells [.int .i64 (J7 (p.drop i))]), (1000009, .loop 0 none 196 9 T)], []]) rfl (Qqi Tryz.func196 rfl rfl) rfl (by
    have ed : p.drop i = p[i] :: p.drop (i + 1) := Znm hi
    have en : J7 (p.drop i) = p[i].toNat + 256 * J7 (p.drop (i + 1)) := by rw [ed]; rfl
    change W (U _ _ _ _ _ _ _ .normal ((T.set 35 _).set 36 _) _) _
    have hL : ∀ a b x y, ((T.set a x).set b y).length = 43 := fun a b x y => by simp [hT]
    simp only [Qn, Qh, Qg, Ql, Qa, Qd, nov, gd, rho, Qe, wr, simprocAttr, Qj, ↓Qi, new, Qb, hset, Qu, Qs, Qp, splice, zerosN, Qo, Qr, Qk, V.pure, Qq, ta, Qqb, Qqq, Zne, hT, h8, Nat.reduceBEq]
    refine W.done ⟨rfl, none, 196, 9, T, rfl, ?_⟩
    have nl : J7 (p.drop (i + 1)) < 16777216 := by omega
    have hb := UInt8.toNat_lt p[i]
    have w1 : (IntKind.i64).wrap (256 * (J7 (p.drop (i + 1)) : Int)) = ((256 * J7 (p.drop (i + 1)) : Nat) : Int) := by rw [wrap_i64] <;> omega
    have w2 : (IntKind.i64).wrap (((256 * J7 (p.drop (i + 1)) : Nat) : Int) + (p[i].toNat : Int)) = (J7 (p.drop i) : Int) := by rw [wrap_i64] <;> omega
    have cv : ∀ g, convertV Tryz.prog g 5 3 (.int .u8 p[i].toNat) = some (.val (.int .i64 p[i].toNat) none) := fun g => by
     simp only [convertV, Tryz.underlying3, Tryz.underlying5]
     have : (IntKind.i64).wrap (p[i].toNat : Int) = p[i].toNat := by rw [wrap_i64] <;> omega
     simp only [this]
    simp only [Qn, Qh, Qg, Ql, Qa, Qd, nov, gd, rho, Qe, wr, simprocAttr, Qj, ↓Qi, new, Qb, hset, Qu, Qs, Qp, splice, zerosN, Qo, Qr, Qk, V.pure, Qq, ta, Qqb, Qqq, Zne, hT, h8, Nat.reduceBEq, w1, w2, cv]
    refine W.done ⟨_, _, rfl, rfl, ?_⟩
    exact Qap (H := [[(8, .cells [.int .i64 (J7 (p.drop i))]), (1000009, .loop 0 none 196 9 T)], []]) (G := [[]]) rfl (Qzr (n := 1) (by omega) hr rfl (.inl rfl)))
 exact h1
theorem Q2n (w : V) (p : List UInt8) (hw : Q1 w p) (hp : p.length <= 4) (T : List V) (hT : T.length = 43) (h8 : T.getD 8 .bad = .ptr 0 8 0) (hr : Qx (fun f _ => Nat.ble 1 f) T = false) :
 CW Tryz.prog Qz 391 [.yield 0 1000009, .iptr [w] 0] [[(8, .cells [.int .i64 0]), (1000009, .loop 0 none 196 9 T)]] fun r H' => r = .ret (.tuple []) /\ H' = [[(8, .cells [.int .i64 (J7 p)]), (1000009, .loop 0 none 196 9 T)]] := by
 have lt : ∀ i, J7 (p.drop i) < 4294967296 := fun i => by
  have h1 := Qlm (p.drop i)
  have h2 : 256 ^ (p.drop i).length <= 256 ^ 4 := Nat.pow_le_pow_right (by decide) (by simp; omega)
  exact Zk3 h1 h2
 have := Q3s w p hw (by omega) 0 1000009 (fun i => [[(8, .cells [.int .i64 (J7 (p.drop i))]), (1000009, .loop 0 none 196 9 T)]]) (fun _ => rfl) (Qzr (n := 1) (G := []) (by omega) hr rfl (.inr rfl))
  (fun i hi => Q1k p 0 (lt 0) T hT h8 hr i hi (lt i))
 have e : J7 (p.drop p.length) = 0 := by rw [List.drop_length]; rfl
 simp only [e] at this
 exact this
def Qbq (n a k : Nat) (p : List UInt8) : Nat × Nat :=
 if !(decide (0 < k) && decide (k <= 4)) || decide (n < a) then (0, 2) else if n < a + k then (0, 8) else (J7 p, 0)
theorem Qq1 (v : V) (cells : List V) (n : Nat) (hv : Zq 1 v cells n) (hl : n <= 281474976710656) (a k : Nat) (ha : a <= 281474976710656) (hk : k <= 4294967296) (p : List UInt8) (hp : a + k <= n -> k <= 4 -> (cells.drop a).take k = Qc p) :
 Fz Tryz.prog Qz 196 [v, .int .i64 a, .int .i64 k] fun r => r = .tuple [.int .i64 (Qbq n a k p).1, .int .i64 (Qbq n a k p).2] := by
 refine Jy Tryz.func196 rfl ?_
 obtain ⟨m, rfl, hm⟩ := (Qvy k).op (by rfl) rfl
 have hm' : ∀ s H, _ := fun s H => hm 196 0 s H rfl
 have len := hv.len Tryz.underlying25
 have c0 : decide ((a : Int) < 0) = false := by simp
 have c1 : decide ((a : Int) > n) = decide (n < a) := by simp
 have w1 : (IntKind.i64).wrap ((a : Int) + k) = ((a + k : Nat) : Int) := by rw [wrap_i64] <;> omega
 have c2 : decide (((a + k : Nat) : Int) > n) = decide (n < a + k) := by simp; omega
 generalize hs : (decide (0 < k) && decide (k <= 4)) = sz at *
 simp only [Qn, Qh, Qg, Ql, Qa, Qd, nov, gd, rho, Qe, wr, simprocAttr, Qj, ↓Qi, Tryz.ntmps196, ta, new, Qb, hset, Qu, Qs, Qp, splice, zerosN, Qo, Qr, Qk, V.pure, Qq, hm', len]
 have err : ∀ (x : Nat) (T : List V), T.getD 6 .bad = .int .i64 0 -> T.getD 7 .bad = .int .i64 x -> Qbq n a k p = (0, x) -> Zx Tryz.prog Tryz.f196 (fun r => r = .tuple [.int .i64 (Qbq n a k p).1, .int .i64 (Qbq n a k p).2]) .ret T [[]] := by
  intro x T h1 h2 h3
  refine Zx.ret (v := .tuple [.int .i64 0, .int .i64 x]) ?_ rfl (by rw [h3]; rfl)
  show (match Qfy Tryz.prog T [[]] [.tmp 6, .tmp 7] with | some [v] => some v | some vs => some (V.tuple vs) | none => none) = _
  simp only [Qfy, Bv, h1, h2]
 cases sz with
 | false =>
   simp only [Qn, Qh, Qg, Ql, Qa, Qd, nov, gd, rho, Qe, wr, simprocAttr, Qj, ↓Qi]
   refine W.done (err 2 _ rfl rfl ?_)
   simp [Qbq, hs]
 | true =>
   simp only [Qn, Qh, Qg, Ql, Qa, Qd, nov, gd, rho, Qe, wr, simprocAttr, Qj, ↓Qi, c0, c1, len]
   refine W.ite (fun h => ?_) (fun h => ?_)
   . simp only [Qn, Qh, Qg, Ql, Qa, Qd, nov, gd, rho, Qe, wr, simprocAttr, Qj, ↓Qi]
     refine W.done (err 2 _ rfl rfl ?_)
     simp only [decide_eq_true_eq] at h
     simp [Qbq, hs, h]
   . have h' : ¬ n < a := by simpa using h
     simp only [Qn, Qh, Qg, Ql, Qa, Qd, nov, gd, rho, Qe, wr, simprocAttr, Qj, ↓Qi, len, w1, c2]
     refine W.ite (fun h2 => ?_) (fun h2 => ?_)
     . simp only [Qn, Qh, Qg, Ql, Qa, Qd, nov, gd, rho, Qe, wr, simprocAttr, Qj, ↓Qi]
       refine W.done (err 8 _ rfl rfl ?_)
       simp only [decide_eq_true_eq] at h2
       simp [Qbq, hs, h', h2]
     . have h2' : ¬ n < a + k := by simpa using h2
       have hg : Qbq n a k p = (J7 p, 0) := by simp [Qbq, hs, h', h2']
       rw [hg]
       have kl : k <= 4 := by
        rw [Zlm, decide_eq_true_eq, decide_eq_true_eq] at hs; exact hs.2
       obtain ⟨w, sl, hw0⟩ := hv.cut (P := Tryz.prog) Tryz.underlying25 sz5 (some (a : Int)) (some ((a + k : Nat) : Int)) (by simp) (by simp only [Zmw]; omega) (by simp only [Zmw]; omega)
       have e1 : ((some ((a + k : Nat) : Int)).getD n).toNat - ((some (a : Int)).getD 0).toNat = k := by
        simp only [Zmw, Zm7]; omega
       have e2 : ((some (a : Int)).getD 0).toNat * 1 = a := by simp
       rw [e1, e2, Zlx, hp (by omega) kl] at hw0
       simp only [Zkw] at sl
       have pl : p.length = k := by
        have := hw0.1
        rw [Z5] at this; omega
       have hw : Q1 w p := by unfold Q1; rw [pl]; exact hw0
       obtain ⟨m3, rfl, hm3⟩ := (Q50 w p hw).op (by rfl) (Qt (hw.frz _) rfl)
       have hm3' : ∀ s H, _ := fun s H => hm3 196 0 s H rfl
       simp only [Qn, Qh, Qg, Ql, Qa, Qd, nov, gd, rho, Qe, wr, simprocAttr, Qj, ↓Qi, new, Qb, hset, Qu, Qs, Qp, splice, zerosN, Qo, Qr, Qk, V.pure, Qq, ta, w1, sl, hm3']
       refine W.rfunc (rid := 9) rfl rfl rfl ?_
       refine (Q2n w p hw (by omega) _ rfl rfl ?_).mono ?_
       . simp only [Qx, V.refs, hv.noRefs, hw.noRefs]; rfl
       rintro r H2 ⟨rfl, rfl⟩
       refine ⟨_, rfl, ?_⟩
       rw [Qm5 (st := 0) (f := 196) (r := 9) rfl (by decide) (by simp only [Qx, V.refs, hv.noRefs, hw.noRefs]; rfl) rfl]
       have hH : ∀ T, List.modify [[(8, O.cells [V.int .i64 (J7 p)]), (1000009, O.loop 0 none 196 9 T)]] 0 (J8 fun x => [Zc 9].contains x) = [[(8, O.cells [V.int .i64 (J7 p)])]] := fun T => rfl
       rw [hH]
       simp only [Qn, Qh, Qg, Ql, Qa, Qd, nov, gd, rho, Qe, wr, simprocAttr, Qj, ↓Qi, new, Qb, hset, Qu, Qs, Qp, splice, zerosN, Qo, Qr, Qk, V.pure, Qq, ta, Qjb]
       exact W.done (Zx.ret (v := .tuple [.int .i64 (J7 p), .int .i64 0]) rfl rfl rfl)
theorem get_fz (v : V) (l : List UInt8) (hv : Q1 v l) (hl : l.length <= 281474976710656) (a k : Nat) (ha : a <= 281474976710656) (hk : k <= 4294967296) :
 Fz Tryz.prog Qz 196 [v, .int .i64 a, .int .i64 k] fun r => r = .tuple [.int .i64 (getR l a k).1, .int .i64 (getR l a k).2] :=
 Qq1 v (Qc l) l.length hv hl a k ha hk ((l.drop a).take k) (fun _ _ => by simp [Qc])
theorem Qqe (v : V) (l : List UInt8) (hv : Q1 v l) (hl : l.length = 4) : Fz Tryz.prog Qz 389 [v] fun r => r = .int .u32 (J7 l) := by
 refine Jy Tryz.func389 rfl ?_
 obtain ⟨m, rfl, hm⟩ := (get_fz v l hv (by omega) 0 4 (by omega) (by omega)).op (by rfl) (Qt (hv.frz _) rfl)
 have e : getR l 0 4 = (J7 l, 0) := by
  have : l.take 4 = l := Znn (by omega)
  simp [getR, hl, this]
 have lt := Qlm l
 rw [hl] at lt
 rw [e] at hm
 have hm' : ∀ s H, AM.callOp Qz (Q5 Tryz.prog Qz) 389 0 s 196 [v, .int .i64 0, .int .i64 4] H = some (.ret (.tuple [.int .i64 (J7 l), .int .i64 0]), H) := fun s H => hm 389 0 s H rfl
 have cv : ∀ g, convertV Tryz.prog g 3 57 (.int .i64 (J7 l)) = some (.val (.int .u32 (J7 l)) none) := fun g => by
  simp only [convertV, Tryz.underlying3, Tryz.underlying57]
  have : (IntKind.u32).wrap (J7 l : Int) = J7 l := by rw [IntKind.wrap_u32]; omega
  simp only [this]
 simp only [Qn, Qh, Qg, Ql, Qa, Qd, nov, gd, rho, Qe, wr, simprocAttr, Qj, ↓Qi, Tryz.ntmps389, ta, new, Qb, hset, Qu, Qs, Qp, splice, zerosN, Qo, Qr, Qk, V.pure, Qq, hm', cv]
 exact W.done (Zx.ret (v := .int .u32 (J7 l)) rfl rfl rfl)
end
section
set_option maxRecDepth 100000
open Go.AM
attribute [local irreducible] U W
theorem cut3 {P : Program} {u e : TypeId} {v : V} {l : List UInt8} (hu : P.underlying u = some (.slice e)) (hs : sz P e = some 1) (h : Q1 v l) {a b : Nat} (h1 : a <= b) (h2 : b <= l.length) (g : Get) :
 ∃ w, (∀ g, Z4 P g u v (some (.int .i64 a)) (some (.int .i64 b)) (some (.int .i64 b)) = some w) /\ Q1 w ((l.drop a).take (b - a)) /\ ((w = .nS /\ v = .nS) \/ ∃ c n, w = .iS c n true) := by
 have ol : ∀ x : Nat, Bb (some (.int .i64 x)) = some (some (x : Int)) := fun x => rfl
 obtain ⟨hl, ⟨rfl, h0⟩ | ⟨f, rfl⟩⟩ := h
 . have hb : b = 0 := by omega
   have ha : a = 0 := by omega
   subst hb ha
   refine ⟨.nS, fun g => ?_, ?_, .inl ⟨rfl, rfl⟩⟩
   . simp only [Z4, ol, hu, hs, B3]; rfl
   . rw [Nat.sub_self, List.take_zero]; exact Q1.nil
 . refine ⟨.iS (((Qc l).drop (a * 1)).take ((b - a) * 1)) (b - a) true, fun g => ?_, ?_, .inr ⟨_, _, rfl⟩⟩
   . simp only [Z4, ol, hu, hs, Qlg, hl, if_true, B3, Zmw]
     rw [if_pos ⟨by omega, by omega, by omega, by omega, by omega, by omega, by simp⟩]
     simp
   . rw [Zlx, Zlx, Qiy, Qd3]
     have : ((l.drop a).take (b - a)).length = b - a := by simp; omega
     have h3 := Q1.mk ((l.drop a).take (b - a)) true
     rwa [this] at h3
theorem Q2m (v : V) (l : List UInt8) (hv : Q1 v l) (k : Nat) (hk : 0 < k) : Fz Tryz.prog Qz 112 [v, .int .i64 k] fun r => r = .func (.func 214) [] [.iptr [v] 0, .iptr [.int .i64 k] 0] := by
 refine Jy Tryz.func112 rfl ?_
 have c1 := hv.cells1
 have c2 : decide ((k : Int) < 1) = false := by simp; omega
 simp only [Qn, Qh, Qg, Ql, Qa, Qd, nov, gd, rho, Qe, wr, simprocAttr, Qj, ↓Qi, Tryz.ntmps112, ta, new, Qb, hset, Qu, Qs, Qp, splice, zerosN, Qo, Qr, Qk, V.pure, Qq, c1, c2]
 have hf : frz (Qb [[(2, O.cells [v]), (3, O.cells [.int .i64 k])]]) depth (.func (.func 214) [] [.ptr 0 2 0, .ptr 0 3 0]) = some (.func (.func 214) [] [.iptr [v] 0, .iptr [.int .i64 k] 0]) := by
  have e := hv.frz (g := Qb [[(2, O.cells [v]), (3, O.cells [.int .i64 k])]]) 9
  have e1 : frz (Qb [[(2, O.cells [v]), (3, O.cells [.int .i64 k])]]) 11 (.ptr 0 2 0) = some (.iptr [v] 0) := by
   show (Zb (frz (Qb [[(2, O.cells [v]), (3, O.cells [.int .i64 k])]]) 10) [v]).map _ = _
   rw [Qt e rfl]; rfl
  show (match Zb (frz _ 11) [], Zb (frz _ 11) [.ptr 0 2 0, .ptr 0 3 0] with | some a, some b => some (V.func _ a b) | _, _ => none) = _
  rw [Qt e1 (Qt (y := .iptr [.int .i64 k] 0) rfl rfl)]; rfl
 exact W.done (Zx.ret (v := .func (.func 214) [] [.ptr 0 2 0, .ptr 0 3 0]) rfl hf rfl)
theorem Q3n (v : V) (l : List UInt8) (hv : Q1 v l) (hl : l.length <= 281474976710656) (k : Nat) (hk : 0 < k) (hk2 : k <= 281474976710656) (m : Nat) (hm : l.length = k * m) (fo so : Nat) (HS : Nat -> Heap) (hlen : ∀ i, (HS i).length = (HS 0).length) (hw : WF (HS m))
 (step : ∀ j, j < m -> ∀ w, Q1 w ((l.drop (k * j)).take k) -> Q5 Tryz.prog Qz none [.yield fo so, w] (HS j ++ [[]]) = some (.ret (.bool true), HS (j + 1) ++ [[]])) :
 CW Tryz.prog Qz 214 [.yield fo so, .iptr [v] 0, .iptr [.int .i64 k] 0] (HS 0) fun r H' => r = .ret (.tuple []) /\ H' = HS m := by
 refine Xk Tryz.func214 rfl ?_
 have len := hv.len Tryz.underlying25
 simp only [Qn, Qh, Qg, Ql, Qa, Qd, nov, gd, rho, Qe, wr, simprocAttr, Qj, ↓Qi, Tryz.ntmps214, ta, new, Qb, hset, Qu, Qs, Qp, splice, zerosN, Qo, Qr, Qk, V.pure, Qq]
 refine W.ul ?_
 refine W.loopS (kt := [0, 1, 2, 4]) rfl (fun j : Nat => Qyw (.yield fo so) (.iptr [v] 0) (.iptr [.int .i64 k] 0) (.int .i64 ((k * j : Nat) : Int))) (fun j => HS j ++ [[]]) (fun j => j <= m) (fun j => m - j) ?_ 0 (Nat.zero_le _) rfl rfl
 intro j hj
 simp only [Qyw]
 by_cases h : j < m
 . have hle : k * j + k <= l.length := by
    have : k * (j + 1) <= k * m := Nat.mul_le_mul_left k h
    rw [Nat.mul_succ] at this; omega
   have c1 : decide (((k * j : Nat) : Int) < l.length) = true := by simp only [decide_eq_true_eq]; omega
   obtain ⟨w1, sl1, hw1⟩ := hv.cut (P := Tryz.prog) Tryz.underlying25 sz5 (some ((k * j : Nat) : Int)) none (by simp only [Zmw]; omega) (by simp only [Zmw, Znb]; omega) (by simp only [Znb]; omega)
   have len1 := hw1.len Tryz.underlying25
   have e1 : ((l.drop ((some ((k * j : Nat) : Int)).getD 0).toNat).take (((none : Option Int).getD l.length).toNat - ((some ((k * j : Nat) : Int)).getD 0).toNat)).length = l.length - k * j := by
    simp only [Zmw, Znb, Zm7, Znc, Zm3]; omega
   rw [e1] at len1
   simp only [Zkw, Zmf] at sl1
   have mn : (if ((l.length - k * j : Nat) : Int) < (k : Int) then ((l.length - k * j : Nat) : Int) else (k : Int)) = k := if_neg (by omega)
   have w2 : (IntKind.i64).wrap (((k * j : Nat) : Int) + k) = ((k * j + k : Nat) : Int) := by rw [wrap_i64] <;> omega
   obtain ⟨w3, sl3, hw3, _⟩ := cut3 (P := Tryz.prog) Tryz.underlying25 sz5 hv (a := k * j) (b := k * j + k) (by omega) hle (fun _ _ => none)
   rw [Nat.add_sub_cancel_left] at hw3
   have st := step j h w3 hw3
   generalize hP : (k * j : Nat) = p at *
   generalize hQ : (p + k : Nat) = q at *
   simp only [Qn, Qh, Qg, Ql, Qa, Qd, nov, gd, rho, Qe, wr, simprocAttr, Qj, ↓Qi, ta, new, Qb, hset, Qu, Qs, Qp, splice, zerosN, Qo, Qr, Qk, V.pure, Qq, c1, len, len1, sl1, sl3, mn, w2, st, Qjb, Qxv]
   refine W.opsK (by kernel_rfl) ?_
   simp only [Qn, Qh, Qg, Ql, Qa, Qd, nov, gd, rho, Qe, wr, simprocAttr, Qj, ↓Qi, ta, new, Qb, hset, Qu, Qs, Qp, splice, zerosN, Qo, Qr, Qk, V.pure, Qq, c1, len, len1, sl1, sl3, mn, w2, st, Qjb, Qxv]
   refine W.done ⟨j + 1, ?_, rfl, h, by omega⟩
   have e2 : k * (j + 1) = q := by rw [Nat.mul_succ, hP, hQ]
   rw [e2]; rfl
 . have hjm : j = m := by omega
   subst hjm
   have c1 : decide (((k * j : Nat) : Int) < l.length) = false := by simp only [decide_eq_false_iff_not]; omega
   simp only [Qn, Qh, Qg, Ql, Qa, Qd, nov, gd, rho, Qe, wr, simprocAttr, Qj, ↓Qi, ta, new, Qb, hset, Qu, Qs, Qp, splice, zerosN, Qo, Qr, Qk, V.pure, Qq, len, c1]
   refine W.done ?_
   simp only [Qn, Qh, Qg, Ql, Qa, Qd, nov, gd, rho, Qe, wr, simprocAttr, Qj, ↓Qi]
   refine W.done (End.normal (v := .tuple []) rfl ⟨rfl, ?_⟩)
   have := Qap (H := HS j) (G := [[]]) (v := .tuple []) rfl hw
   rw [hlen] at this
   exact this
end
section
set_option maxRecDepth 100000
open Go.AM Go.AM.BM
attribute [local irreducible] U W
theorem Qza (n : Nat) : (IntKind.u32).wrap (n : Int) = ((n % 4294967296 : Nat) : Int) := by
 simp [IntKind.wrap, IntKind.bits, IntKind.signed]
theorem Qsp (n : Nat) (h : n < 4294967296) : (BitVec.ofInt 32 (n : Int)).toNat = n := by
 simp [BitVec.toNat_ofInt]; omega
theorem addU (a b : Nat) : Qds .add .u32 a b = some (.int .u32 (Qb0 a b : Nat)) := by
 have : ((a : Int) + b) = ((a + b : Nat) : Int) := by omega
 simp only [Qds]; rw [this, Qza]; rfl
theorem xorU (a b : Nat) (ha : a < 4294967296) (hb : b < 4294967296) : Qds .xor .u32 a b = some (.int .u32 (Nat.xor a b : Nat)) := by
 have e : (BitVec.ofInt (IntKind.u32).bits (a : Int) ^^^ BitVec.ofInt (IntKind.u32).bits (b : Int)).toNat = Nat.xor a b := by
  show (BitVec.ofInt 32 (a : Int) ^^^ BitVec.ofInt 32 (b : Int)).toNat = _
  rw [BitVec.toNat_xor, Qsp a ha, Qsp b hb]; rfl
 have l : Nat.xor a b < 4294967296 := Nat.xor_lt_two_pow (n := 32) ha hb
 simp only [Qds]; rw [e, Qza, Nat.mod_eq_of_lt l]
theorem orU (a b : Nat) (ha : a < 4294967296) (hb : b < 4294967296) : Qds .or .u32 a b = some (.int .u32 (Nat.lor a b : Nat)) := by
 have e : (BitVec.ofInt (IntKind.u32).bits (a : Int) ||| BitVec.ofInt (IntKind.u32).bits (b : Int)).toNat = Nat.lor a b := by
  show (BitVec.ofInt 32 (a : Int) ||| BitVec.ofInt 32 (b : Int)).toNat = _
  rw [BitVec.toNat_or, Qsp a ha, Qsp b hb]; rfl
 have l : Nat.lor a b < 4294967296 := Nat.or_lt_two_pow (n := 32) ha hb
 simp only [Qds]; rw [e, Qza, Nat.mod_eq_of_lt l]
theorem shlU (a k : Nat) (hk : k < 32) : Qc2 .shl .u32 a k = some (.int .u32 (Nat.mod (Nat.shiftLeft a k) 4294967296 : Nat)) := by
 have e : min (k : Int).toNat (IntKind.u32).bits = k := by
  have : (k : Int).toNat = k := rfl
  rw [this]; show min k 32 = k; omega
 have e2 : (a : Int) * 2 ^ k = ((Nat.shiftLeft a k : Nat) : Int) := by
  show _ = ((a <<< k : Nat) : Int)
  rw [Nat.shiftLeft_eq]; simp
 simp only [Qc2, e, e2, Qza]
 rw [if_neg (by omega)]; rfl
theorem shrU (a k : Nat) (hk : k < 32) : Qc2 .shr .u32 a k = some (.int .u32 (Nat.shiftRight a k : Nat)) := by
 have e : min (k : Int).toNat (IntKind.u32).bits = k := by
  have : (k : Int).toNat = k := rfl
  rw [this]; show min k 32 = k; omega
 have e2 : (a : Int).fdiv (2 ^ k) = ((Nat.shiftRight a k : Nat) : Int) := by
  show _ = ((a >>> k : Nat) : Int)
  rw [Nat.shiftRight_eq_div_pow, Int.fdiv_eq_ediv_of_nonneg _ (Int.le_of_lt (Int.pow_pos (by decide)))]; simp
 simp only [Qc2, e, e2]
 rw [if_neg (by omega)]
theorem Qwq (x k : Nat) (hx : x < 4294967296) : Qf8 x k < 4294967296 := by
 have a : Nat.mod (Nat.shiftLeft x k) 4294967296 < 4294967296 := Nat.mod_lt _ (by decide)
 have b : Nat.shiftRight x (32 - k) < 4294967296 := by
  have : Nat.shiftRight x (32 - k) = x >>> (32 - k) := rfl
  rw [this, Nat.shiftRight_eq_div_pow]
  exact Nat.lt_of_le_of_lt (Nat.div_le_self _ _) hx
 exact Nat.or_lt_two_pow (n := 32) a b
theorem Q4m (x k : Nat) (hx : x < 4294967296) (hk : k = 15 \/ k = 11 \/ k = 9 \/ k = 6) : Fz Tryz.prog Qz 468 [.int .u32 x, .int .i64 k] fun r => r = .int .u32 (Qf8 x k : Nat) := by
 refine Jy Tryz.func468 rfl ?_
 have k32 : k < 32 := by omega
 have cv : ∀ g, convertV Tryz.prog g 3 218 (.int .i64 k) = some (.val (.int .u64 k) none) := fun g => by
  rcases hk with rfl | rfl | rfl | rfl <;> kernel_rfl
 have bA : ∀ p q, Z1 Tryz.prog .and 218 p q (.int .u64 k) (.int .u64 31) = some (.int .u64 k) := fun p q => by
  rcases hk with rfl | rfl | rfl | rfl <;> rfl
 have bS : ∀ p q, Z1 Tryz.prog .sub 218 p q (.int .u64 32) (.int .u64 k) = some (.int .u64 ((32 - k : Nat) : Int)) := fun p q => by
  rcases hk with rfl | rfl | rfl | rfl <;> rfl
 have b1 : ∀ p q, Z1 Tryz.prog .shl 57 p q (.int .u32 x) (.int .u64 k) = _ := fun p q => shlU x k k32
 have b2 : ∀ p q, Z1 Tryz.prog .shr 57 p q (.int .u32 x) (.int .u64 ((32 - k : Nat) : Int)) = _ := fun p q => shrU x (32 - k) (by omega)
 have b3 : ∀ p q, Z1 Tryz.prog .or 57 p q (.int .u32 (Nat.mod (Nat.shiftLeft x k) 4294967296 : Nat)) (.int .u32 (Nat.shiftRight x (32 - k) : Nat)) = _ := fun p q => orU _ _ (Nat.mod_lt _ (by decide)) (by
  have : Nat.shiftRight x (32 - k) = x >>> (32 - k) := rfl
  rw [this, Nat.shiftRight_eq_div_pow]
  exact Nat.lt_of_le_of_lt (Nat.div_le_self _ _) hx)
 generalize hr : (Nat.lor _ _ : Nat) = r at b3
 have er : Qf8 x k = r := hr
 rw [er]
 generalize (Nat.mod (Nat.shiftLeft x k) 4294967296 : Nat) = u at b1 b3
 generalize (Nat.shiftRight x (32 - k) : Nat) = w at b2 b3
 generalize (32 - k : Nat) = m at bS b2
 simp only [Qn, Qh, Qg, Ql, Qa, Qd, nov, gd, rho, Qe, wr, simprocAttr, Qj, ↓Qi, Tryz.ntmps468, ta, new, Qb, hset, Qu, Qs, Qp, splice, zerosN, Qo, Qr, Qk, V.pure, Qq, cv, bA, bS, b1, b2, b3]
 exact W.done (Zx.ret rfl rfl rfl)
end
section
set_option maxRecDepth 100000
open Go.AM Go.AM.BM
attribute [local irreducible] U W
def u32 (n : Nat) : V := .int .u32 n
def wc (x : W4) : List V := [.int .u32 x.a, .int .u32 x.b, .int .u32 x.c, .int .u32 x.d]
def zW : List V := [.int .u32 0, .int .u32 0, .int .u32 0, .int .u32 0]
def wok (x : W4) : Prop := x.a < 4294967296 /\ x.b < 4294967296 /\ x.c < 4294967296 /\ x.d < 4294967296
theorem Qix {α : Type} (x : Nat) (k : Nat -> α) : Qcr x k = k x := by
 unfold Qcr; cases x <;> rfl
theorem Qvq (far near : Nat) (x : W4) : Qf9 far near x = ⟨Qb0 x.a x.b, Qf8 (Nat.xor x.b (Qb0 x.c (Qf8 (Nat.xor x.d (Qb0 x.a x.b)) far))) near, Qb0 x.c (Qf8 (Nat.xor x.d (Qb0 x.a x.b)) far), Qf8 (Nat.xor x.d (Qb0 x.a x.b)) far⟩ := by
 unfold Qf9
 simp only [Qix]
theorem Qa8 (a b : Nat) : Qb0 a b < 4294967296 := Nat.mod_lt _ (by decide)
theorem Qc9 {a b : Nat} (ha : a < 4294967296) (hb : b < 4294967296) : Nat.xor a b < 4294967296 := Nat.xor_lt_two_pow (n := 32) ha hb
theorem Qnp {far near : Nat} {x : W4} (h : wok x) : wok (Qf9 far near x) := by
 obtain ⟨ha, hb, hc, hd⟩ := h
 rw [Qvq]
 have h1 := Qwq _ far (Qc9 hd (Qa8 x.a x.b))
 exact ⟨Qa8 _ _, Qwq _ _ (Qc9 hb (Qa8 _ _)), Qa8 _ _, h1⟩
theorem ia0 (f s : Nat) : Q9 Tryz.prog 363 (.ptr f s 0) (.int .i64 0) = some (.ptr f s 0) := by simp only [Q9, Tryz.underlying363, Qsv]; rfl
theorem ia1 (f s : Nat) : Q9 Tryz.prog 363 (.ptr f s 0) (.int .i64 1) = some (.ptr f s 1) := by simp only [Q9, Tryz.underlying363, Qsv]; rfl
theorem ia2 (f s : Nat) : Q9 Tryz.prog 363 (.ptr f s 0) (.int .i64 2) = some (.ptr f s 2) := by simp only [Q9, Tryz.underlying363, Qsv]; rfl
theorem ia3 (f s : Nat) : Q9 Tryz.prog 363 (.ptr f s 0) (.int .i64 3) = some (.ptr f s 3) := by simp only [Q9, Tryz.underlying363, Qsv]; rfl
theorem Qzd (far near : Nat) (hf : far = 15 \/ far = 11 \/ far = 9 \/ far = 6) (hn : near = 15 \/ near = 11 \/ near = 9 \/ near = 6) (x : W4) (hx : wok x) :
 CW Tryz.prog Qz 467 [.int .i64 far, .int .i64 near, .ptr 0 1 0] [[(1, .cells (wc x)), (2, .cells zW)]] fun r H' => r = .ret (.tuple []) /\ H' = [[(1, .cells (wc (Qf9 far near x))), (2, .cells zW)]] := by
 refine Xk Tryz.func467 rfl ?_
 obtain ⟨a, b, c, d⟩ := x
 obtain ⟨ha, hb, hc, hd⟩ := hx
 simp only at ha hb hc hd
 have bA : ∀ p q (x y : Nat), Z1 Tryz.prog .add 57 p q (.int .u32 x) (.int .u32 y) = some (.int .u32 (Qb0 x y : Nat)) := fun p q x y => addU x y
 have x1 : ∀ p q, Z1 Tryz.prog .xor 57 p q (.int .u32 d) (.int .u32 (Qb0 a b : Nat)) = _ := fun p q => xorU d _ hd (Qa8 _ _)
 have l1 := Qc9 hd (Qa8 a b)
 rw [Qvq]
 simp only [wc] at *
 generalize (Nat.xor d (Qb0 a b) : Nat) = d1 at *
 obtain ⟨m, rfl, hm⟩ := (Q4m d1 far l1 hf).op (by rfl) rfl
 have hm' : ∀ s H, _ := fun s H => hm 467 1 s H rfl
 have l2 := Qwq d1 far l1
 generalize (Qf8 d1 far : Nat) = d2 at *
 have x2 : ∀ p q, Z1 Tryz.prog .xor 57 p q (.int .u32 b) (.int .u32 (Qb0 c d2 : Nat)) = _ := fun p q => xorU b _ hb (Qa8 _ _)
 have l3 := Qc9 hb (Qa8 c d2)
 generalize (Nat.xor b (Qb0 c d2) : Nat) = b1 at *
 obtain ⟨m2, rfl, hm2⟩ := (Q4m b1 near l3 hn).op (by rfl) rfl
 have hm2' : ∀ s H, _ := fun s H => hm2 467 1 s H rfl
 generalize (Qf8 b1 near : Nat) = b2 at *
 simp only [Qn, Qh, Qg, Ql, Qa, Qd, nov, gd, rho, Qe, wr, simprocAttr, Qj, ↓Qi, Tryz.ntmps467, ta, new, Qb, hset, Qu, Qs, Qp, splice, zerosN, Qo, Qr, Qk, V.pure, Qq, ia0, ia1, ia2, ia3, bA, x1, x2, hm', hm2']
 exact W.done (End.normal (v := .tuple []) rfl ⟨rfl, rfl⟩)
theorem sc_w (x : W4) : (wc x).all V.scalar = true := rfl
theorem ln_w (x : W4) : (wc x).length = 4 := rfl
theorem rd_w (x : W4) : Q0 Tryz.prog 363 (wc x) 0 = some (.agg (wc x)) := by rw [rd363]; rfl
theorem sp_w (x y : W4) : splice (wc x) 0 (wc y) = wc y := rfl
theorem sp_z (y : W4) : splice zW 0 (wc y) = wc y := rfl
theorem tk_w (x : W4) : (wc x).take 4 = wc x := rfl
theorem ln_z : zW.length = 4 := rfl
theorem Q1n (x : W4) (hx : wok x) : Fz Tryz.prog Qz 446 [.agg (wc x)] fun r => r = .agg (wc (Qgr x)) := by
 refine Jy Tryz.func446 rfl ?_
 obtain ⟨r1, K1, e1, rfl, rfl⟩ := Qzd 15 11 (by omega) (by omega) x hx
 obtain ⟨r2, K2, e2, rfl, rfl⟩ := Qzd 9 6 (by omega) (by omega) _ (Qnp (far := 15) (near := 11) hx)
 have c1 : ∀ s, AM.callOp Qz (Q5 Tryz.prog Qz) 446 0 s 467 [.int .i64 15, .int .i64 11, .ptr 0 1 0] [[(1, .cells (wc x)), (2, .cells zW)]] = _ := fun s => Kx rfl rfl rfl e1
 have c2 : ∀ s, AM.callOp Qz (Q5 Tryz.prog Qz) 446 0 s 467 [.int .i64 9, .int .i64 6, .ptr 0 1 0] [[(1, .cells (wc (Qf9 15 11 x))), (2, .cells zW)]] = _ := fun s => Kx rfl rfl rfl e2
 have ez : ([.int .u32 0, .int .u32 0, .int .u32 0, .int .u32 0] : List V) = zW := rfl
 have et : Qgr x = Qf9 9 6 (Qf9 15 11 x) := rfl
 rw [et]
 simp only [Qn, Qh, Qg, Ql, Qa, Qd, nov, gd, rho, Qe, wr, simprocAttr, Qj, ↓Qi, Tryz.ntmps446, ta, new, Qb, hset, Qu, Qs, Qp, splice, zerosN, Qo, Qr, Qk, V.pure, Qq, c1, c2, ez, sc_w, ln_w, rd_w, sp_w, sp_z, ln_z, tk_w]
 exact W.done (Zx.ret (v := .agg (wc (Qf9 9 6 (Qf9 15 11 x)))) rfl rfl rfl)
theorem Qls {x : W4} (h : wok x) : wok (Qgr x) := Qnp (Qnp h)
theorem Qt1 (n : Nat) (x : W4) : K0 (n + 1) x = K0 n (Qgr x) := rfl
theorem Qj0 : ∀ (n : Nat) {x : W4}, wok x -> wok (K0 n x)
 | 0, _, h => h
 | n + 1, x, h => by rw [Qt1]; exact Qj0 n (Qls h)
theorem Quo (n : Nat) (hn : n < 1000) (x : W4) (hx : wok x) : Fz Tryz.prog Qz 390 [.agg (wc x), .int .i64 n] fun r => r = .agg (wc (K0 n x)) := by
 refine Jy Tryz.func390 rfl ?_
 have ez : ([.int .u32 0, .int .u32 0, .int .u32 0, .int .u32 0] : List V) = zW := rfl
 simp only [Qn, Qh, Qg, Ql, Qa, Qd, nov, gd, rho, Qe, wr, simprocAttr, Qj, ↓Qi, Tryz.ntmps390, ta, new, Qb, hset, Qu, Qs, Qp, splice, zerosN, Qo, Qr, Qk, V.pure, Qq, ez, sc_w, ln_w, rd_w, sp_w, sp_z, ln_z, tk_w]
 refine W.ul ?_
 refine W.loopS (kt := [2, 4, 5, 6]) rfl (fun a : Nat × W4 => Qze (.ptr 0 2 0) (.ptr 0 4 0) (.int .i64 n) (.int .i64 a.1)) (fun a => [[(2, .cells (wc a.2)), (4, .cells zW)]]) (fun a => a.1 <= n /\ wok a.2 /\ K0 (n - a.1) a.2 = K0 n x) (fun a => n - a.1) ?_ (0, x) ⟨by simp, hx, rfl⟩ rfl rfl
 rintro ⟨i, y⟩ ⟨hi, hy, he⟩
 simp only at hi hy he
 simp only [Qze]
 by_cases h : i < n
 . have c1 : decide ((i : Int) < n) = true := by simp; omega
   obtain ⟨m, rfl, hm⟩ := (Q1n y hy).op (by rfl) rfl
   have hm' : ∀ s H, _ := fun s H => hm 390 0 s H rfl
   have w1 : (IntKind.i64).wrap ((i : Int) + 1) = ((i + 1 : Nat) : Int) := by rw [wrap_i64] <;> omega
   simp only [Qn, Qh, Qg, Ql, Qa, Qd, nov, gd, rho, Qe, wr, simprocAttr, Qj, ↓Qi, ta, new, Qb, hset, Qu, Qs, Qp, splice, zerosN, Qo, Qr, Qk, V.pure, Qq, c1, hm', w1, sc_w, ln_w, rd_w, sp_w, sp_z, ln_z, tk_w]
   refine W.done ⟨(i + 1, Qgr y), rfl, rfl, ⟨by simp only; omega, Qls hy, ?_⟩, by simp only; omega⟩
   rw [<- he]
   have : n - i = (n - (i + 1)) + 1 := by omega
   simp only
   rw [this]; rfl
 . have c1 : decide ((i : Int) < n) = false := by simp; omega
   have hn' : n - i = 0 := by omega
   rw [hn'] at he
   have he' : y = K0 n x := he
   subst he'
   simp only [Qn, Qh, Qg, Ql, Qa, Qd, nov, gd, rho, Qe, wr, simprocAttr, Qj, ↓Qi, c1]
   refine W.done ?_
   simp only [Qn, Qh, Qg, Ql, Qa, Qd, nov, gd, rho, Qe, wr, simprocAttr, Qj, ↓Qi, ta, new, Qb, hset, Qu, Qs, Qp, splice, zerosN, Qo, Qr, Qk, V.pure, Qq, c1, sc_w, ln_w, rd_w, sp_w, sp_z, ln_z, tk_w]
   exact W.done (Zx.ret (v := .agg (wc (K0 n x))) rfl rfl rfl)
end
end Go.Proofs.YteagpfbdmiihaaaGreatDoor
