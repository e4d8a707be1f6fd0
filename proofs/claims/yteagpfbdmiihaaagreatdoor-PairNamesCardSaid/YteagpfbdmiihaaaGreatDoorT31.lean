/- This file holds in one the texts DI, DM, DJ, D01, D1, D2; each says at its head what it proves. -/
import Derived.Test.YteagpfbdmiihaaaGreatDoorT18
import Derived.Test.YteagpfbdmiihaaaGreatDoorT20
import Derived.Test.YteagpfbdmiihaaaGreatDoorT27
import Derived.Test.YteagpfbdmiihaaaGreatDoorT28
import Derived.Test.YteagpfbdmiihaaaGreatDoorT29
import Derived.Test.YteagpfbdmiihaaaGreatDoorT30
set_option linter.unusedSimpArgs false
set_option linter.unusedVariables false
namespace Go.Proofs.YteagpfbdmiihaaaGreatDoor
section
set_option maxRecDepth 100000
open Go.AM Go.AM.BM
attribute [local irreducible] U W
theorem Qn5 : byt Tryz.prog 5 = some 1 := by kernel_rfl
theorem Qnr {l : List UInt8} {f s n e : Nat} (g : Get) (m : Nat) : frz g (m + 2) (.gS f s (Qc l) n e) = some (.iS (Qc l) n false) := by
 have : Zb (frz g (m + 1)) (Qc l) = some (Qc l) := Qis _ _ _
 show (Zb (frz g (m + 1)) (Qc l)).map _ = _
 rw [this]; rfl
theorem scl_fz (v : V) (l : List UInt8) (hv : Q1 v l) (hl : l.length <= 1048576) : Fz Tryz.prog Qz 11 [v] fun r => Q1 r l := by
 refine Jy Tryz.func11 rfl ?_
 by_cases hn : v = .nS
 . subst hn
   have h0 : l = [] := by
    obtain ⟨hlen, ⟨_, h⟩ | ⟨f, h⟩⟩ := hv
    . exact Zna h
    . cases h
   subst h0
   have e : ∀ p q, Z1 Tryz.prog .eql 25 p q .nS .nS = some (.bool true) := fun p q => rfl
   simp only [Qn, Qh, Qg, Ql, Qa, Qd, nov, gd, rho, Qe, wr, simprocAttr, Qj, ↓Qi, Tryz.ntmps11, ta, new, Qb, hset, Qu, Qs, Qp, splice, zerosN, Qo, Qr, Qk, V.pure, Qq, e]
   exact W.done (Zx.ret rfl rfl Q1.nil)
 . have hv' := hv
   obtain ⟨hlen, ⟨h, _⟩ | ⟨f, rfl⟩⟩ := hv
   . exact absurd h hn
   have sc := Zq.sc (g := Qb [[]]) hv'
   have mt7 : Qz.mt 11 7 = false := rfl
   have mt5 : Qz.mt 11 5 = false := rfl
   by_cases h0 : l = []
   . subst h0
     have ap : Zj Tryz.prog (Qz.mt 11) 0 (Qb [[]]) (some 7) 25 25 (.iS [] 0 true) (.iS (Qc []) 0 f) = some (.val (.iS [] 0 true) none) := by
      simp only [Zj, Tryz.underlying25, sz5, Qn5, zc5, Y8, sc]; rfl
     simp only [Qn, Qh, Qg, Ql, Qa, Qd, nov, gd, rho, Qe, wr, simprocAttr, Qj, ↓Qi, Tryz.ntmps11, ta, new, Qb, hset, Qu, Qs, Qp, splice, zerosN, Qo, Qr, Qk, V.pure, Qq, Qgq Tryz.underlying25, J9, ap, mt7, mt5, Tryz.underlying25]
     refine W.done ?_
     refine Zx.ret (v := .iS [] 0 true) (v' := .iS [] 0 true) rfl rfl ?_
     exact Q1.mk [] true
   . have hp : 0 < l.length := List.length_pos_iff.2 h0
     have ap : Zj Tryz.prog (Qz.mt 11) 0 (Qb [[]]) (some 7) 25 25 (.iS [] 0 true) (.iS (Qc l) l.length f) = some (.val (.gS 0 7 (Qc l) l.length 1) (some (0, 7, .grow l.length))) := by
      rw [Qu3 Tryz.underlying25 sz5 Qn5 zc5 rfl Tryz.underlying25 sc hp rfl (Qa2 (by omega) (by omega)), Zmm, Zk7, Qcc mt7 (Qax l) rfl]
     simp only [Qn, Qh, Qg, Ql, Qa, Qd, nov, gd, rho, Qe, wr, simprocAttr, Qj, ↓Qi, Tryz.ntmps11, ta, new, Qb, hset, Qu, Qs, Qp, splice, zerosN, Qo, Qr, Qk, V.pure, Qq, Qgq Tryz.underlying25, J9, ap, mt7, mt5, Tryz.underlying25]
     refine W.done (Zx.ret (v := .gS 0 7 (Qc l) l.length 1) rfl ?_ (Q1.mk l false))
     exact Qnr _ _
theorem Q58 (v : V) (l : List UInt8) (hv : Q1 v l) (hl : l.length <= 1048576) : Fz Tryz.prog Qz 388 [v] fun r => Q1 r l /\ (r = .nS \/ ∃ c n, r = .iS c n true) := by
 refine Jy Tryz.func388 rfl ?_
 have len := hv.len Tryz.underlying25
 have h2 : ∃ w, (∀ g, Z4 Tryz.prog g 25 v none (some (.int .i64 l.length)) (some (.int .i64 l.length)) = some w) /\ Q1 w l /\ (w = .nS \/ ∃ c n, w = .iS c n true) := by
  have ol : ∀ x : Nat, Bb (some (.int .i64 x)) = some (some (x : Int)) := fun x => rfl
  obtain ⟨hl', ⟨rfl, h0⟩ | ⟨f, rfl⟩⟩ := hv
  . have e : l = [] := Zna h0
    subst e
    refine ⟨.nS, fun g => ?_, Q1.nil, .inl rfl⟩
    simp only [Z4, ol, Tryz.underlying25, sz5, B3]; rfl
  . refine ⟨.iS (Qc l) l.length true, fun g => ?_, Q1.mk _ _, .inr ⟨_, _, rfl⟩⟩
    have on : Bb none = some none := rfl
    simp only [Z4, ol, on, Tryz.underlying25, sz5, Qlg, hl', if_true, B3, Zmw, Znb]
    rw [if_pos ⟨by omega, by omega, by omega, by omega, by omega, by omega, by simp⟩]
    have : ((Qc l).take l.length) = Qc l := Znn (by rw [Z5]; exact Zk0 _)
    simp [this]
 obtain ⟨w, sl, hw, hc⟩ := h2
 simp only [Qn, Qh, Qg, Ql, Qa, Qd, nov, gd, rho, Qe, wr, simprocAttr, Qj, ↓Qi, Tryz.ntmps388, ta, new, Qb, hset, Qu, Qs, Qp, splice, zerosN, Qo, Qr, Qk, V.pure, Qq, len, sl]
 exact W.done (Zx.ret (v := w) rfl (hw.frz _) ⟨hw, hc⟩)
def Qag (l : List UInt8) (k : Nat) : List UInt8 := l ++ 1 :: List.replicate k 0
theorem Qc0 (l : List UInt8) (k : Nat) : (Qag l k).length = l.length + 1 + k := by simp [Qag]; omega
theorem Qzy (l : List UInt8) (k : Nat) : Qag l k ++ [0] = Qag l (k + 1) := by
 simp [Qag, List.replicate_succ']
noncomputable def Qhg (y : W4) (p : List UInt8) : W4 := K0 4 ⟨Nat.xor y.a (J7 (p.take 4)), y.b, Nat.xor y.c (J7 (p.drop 4)), y.d⟩
noncomputable def Qdq (l : List UInt8) : Nat -> W4
 | 0 => ⟨1, 2, 3, 4⟩
 | j + 1 => Qhg (Qdq l j) ((l.drop (8 * j)).take 8)
theorem Qy5 {l : List UInt8} (h : l.length = 4) : J7 l < 4294967296 := by
 have := Qlm l
 rw [h] at this; exact this
theorem Q2q {y : W4} {p : List UInt8} (hy : wok y) (hp : p.length = 8) : wok (Qhg y p) := by
 obtain ⟨h1, h2, h3, h4⟩ := hy
 exact Qj0 4 ⟨Qc9 h1 (Qy5 (by simp; omega)), h2, Qc9 h3 (Qy5 (by simp; omega)), h4⟩
theorem Qyx (z : W4) (n : Nat) (T : List V) {G : AM.Heap} (hr : Qx (fun f _ => Nat.ble 1 f) T = false) (hG : G = [[]] \/ G = []) : WF ([[(2, .cells zW), (3, .cells [.int .u32 z.a, .int .u32 z.b, .int .u32 z.c, .int .u32 z.d]), (11, .grow n), (1000006, .loop 0 none 293 6 T)]] ++ G) := by
 have h2 : WF [[(2, .cells zW), (3, .cells [.int .u32 z.a, .int .u32 z.b, .int .u32 z.c, .int .u32 z.d]), (11, .grow n), (1000006, .loop 0 none 293 6 T)]] := by
  have h0 : (O.loop 0 none 293 6 T).refs (fun f _ => Nat.ble 1 f) = false := hr
  show Zh (fun f _ => Nat.ble 1 f) _ = true
  simp only [Zh, Zo, h0]; rfl
 rcases hG with rfl | rfl
 . exact h2.app rfl
 . exact h2
theorem Qw6 (y : W4) (hy : wok y) (n : Nat) (T : List V) (hT : T.length = 47) (h3 : T.getD 3 .bad = .ptr 0 3 0) (hr : Qx (fun f _ => Nat.ble 1 f) T = false) (w : V) (p : List UInt8) (hw : Q1 w p) (hp : p.length = 8) :
 Q5 Tryz.prog Qz none [.yield 0 1000006, w] ([[(2, .cells zW), (3, .cells (wc y)), (11, .grow n), (1000006, .loop 0 none 293 6 T)]] ++ [[]]) = some (.ret (.bool true), [[(2, .cells zW), (3, .cells (wc (Qhg y p))), (11, .grow n), (1000006, .loop 0 none 293 6 T)]] ++ [[]]) := by
 obtain ⟨r, H3, h1, rfl, rfl⟩ := Qt7 (P := Tryz.prog) (pol := Qz) (fo := 0) (so := 1000006) (args := [w]) (H := [[(2, .cells zW), (3, .cells (wc y)), (11, .grow n), (1000006, .loop 0 none 293 6 T)], []]) (p := none) (fL := 293) (rid := 6) (t0 := T)
  (R := fun r H3 => r = .ret (.bool true) /\ H3 = [[(2, .cells zW), (3, .cells (wc (Qhg y p))), (11, .grow n), (1000006, .loop 0 none 293 6 T)], []]) rfl (Qqi Tryz.func293 rfl rfl) rfl (by
    change W (U _ _ _ _ _ _ _ .normal (T.set 21 _) _) _
    have hy' := hy
    obtain ⟨ya, yb, yc, yd⟩ := hy'
    obtain ⟨w1, sl1, hw1⟩ := hw.cut (P := Tryz.prog) Tryz.underlying25 sz5 none (some 4) (by simp) (by simp) (by simp only [Zmw]; omega)
    obtain ⟨w2, sl2, hw2⟩ := hw.cut (P := Tryz.prog) Tryz.underlying25 sz5 (some 4) none (by simp) (by simp only [Zmw, Znb]; omega) (by simp)
    have e1 : (p.drop ((none : Option Int).getD 0).toNat).take (((some (4 : Int)).getD p.length).toNat - ((none : Option Int).getD 0).toNat) = p.take 4 := by simp
    have e2 : (p.drop ((some (4 : Int)).getD 0).toNat).take (((none : Option Int).getD p.length).toNat - ((some (4 : Int)).getD 0).toNat) = p.drop 4 := by
     simp only [Zmw, Znb, Zm7]
     rw [Znn (by simp)]; rfl
    rw [e1] at hw1
    rw [e2] at hw2
    simp only [Zkw, Zmf] at sl1 sl2
    obtain ⟨m1, rfl, hm1⟩ := (Qqe w1 _ hw1 (by simp; omega)).op (by rfl) (Qt (hw1.frz _) rfl)
    obtain ⟨m2, rfl, hm2⟩ := (Qqe w2 _ hw2 (by simp; omega)).op (by rfl) (Qt (hw2.frz _) rfl)
    have hm1' : ∀ s H, _ := fun s H => hm1 293 2 s H rfl
    have hm2' : ∀ s H, _ := fun s H => hm2 293 2 s H rfl
    have l1 : J7 (p.take 4) < 4294967296 := Qy5 (by simp; omega)
    have l2 : J7 (p.drop 4) < 4294967296 := Qy5 (by simp; omega)
    have b1 : ∀ a b, Z1 Tryz.prog .xor 57 a b (.int .u32 y.a) (.int .u32 (J7 (p.take 4))) = _ := fun a b => xorU y.a _ ya l1
    have b2 : ∀ a b, Z1 Tryz.prog .xor 57 a b (.int .u32 y.c) (.int .u32 (J7 (p.drop 4))) = _ := fun a b => xorU y.c _ yc l2
    have x1 := Qc9 ya l1
    have x2 := Qc9 yc l2
    have es : Qhg y p = K0 4 ⟨Nat.xor y.a (J7 (p.take 4)), y.b, Nat.xor y.c (J7 (p.drop 4)), y.d⟩ := rfl
    rw [es]
    generalize (Nat.xor y.a (J7 (p.take 4)) : Nat) = xa at *
    generalize (Nat.xor y.c (J7 (p.drop 4)) : Nat) = xc at *
    generalize (J7 (p.take 4) : Nat) = n1 at *
    generalize (J7 (p.drop 4) : Nat) = n2 at *
    obtain ⟨m3, rfl, hm3⟩ := (Quo 4 (by omega) ⟨xa, y.b, xc, y.d⟩ ⟨x1, yb, x2, yd⟩).op (by rfl) rfl
    have hm3' : ∀ s H, AM.callOp Qz (Q5 Tryz.prog Qz) 293 2 s 390 [.agg [.int .u32 xa, .int .u32 y.b, .int .u32 xc, .int .u32 y.d], .int .i64 4] H = _ := fun s H => hm3 293 2 s H rfl
    generalize K0 4 ⟨xa, y.b, xc, y.d⟩ = z at *
    obtain ⟨c, d, e, f⟩ := y
    simp only [wc] at *
    simp only [Qn, Qh, Qg, Ql, Qa, Qd, nov, gd, rho, Qe, wr, simprocAttr, Qj, ↓Qi, new, Qb, hset, Qu, Qs, Qp, splice, zerosN, Qo, Qr, Qk, V.pure, Qq, ta, Qqb, Qqq, Zne, hT, h3, Nat.reduceBEq]
    refine W.done ⟨rfl, none, 293, 6, T, rfl, ?_⟩
    simp only [Qn, Qh, Qg, Ql, Qa, Qd, nov, gd, rho, Qe, wr, simprocAttr, Qj, ↓Qi, new, Qb, hset, Qu, Qs, Qp, splice, zerosN, Qo, Qr, Qk, V.pure, Qq, ta, Qqb, Qqq, Zne, hT, h3, Nat.reduceBEq, ia0, ia1, ia2, ia3, sl1, sl2, hm1', hm2', hm3', b1, b2]
    refine W.opsK (by kernel_rfl) ?_
    simp only [Qn, Qh, Qg, Ql, Qa, Qd, nov, gd, rho, Qe, wr, simprocAttr, Qj, ↓Qi, new, Qb, hset, Qu, Qs, Qp, splice, zerosN, Qo, Qr, Qk, V.pure, Qq, ta, Qqb, Qqq, Zne, hT, h3, Nat.reduceBEq, ia0, ia1, ia2, ia3, sl1, sl2, hm1', hm2', hm3', b1, b2]
    refine W.opsK (by kernel_rfl) ?_
    simp only [Qn, Qh, Qg, Ql, Qa, Qd, nov, gd, rho, Qe, wr, simprocAttr, Qj, ↓Qi, new, Qb, hset, Qu, Qs, Qp, splice, zerosN, Qo, Qr, Qk, V.pure, Qq, ta, Qqb, Qqq, Zne, hT, h3, Nat.reduceBEq, ia0, ia1, ia2, ia3, sl1, sl2, hm1', hm2', hm3', b1, b2]
    refine W.done ⟨_, _, rfl, rfl, ?_⟩
    exact Qap (H := [[(2, .cells zW), (3, .cells [.int .u32 z.a, .int .u32 z.b, .int .u32 z.c, .int .u32 z.d]), (11, .grow n), (1000006, .loop 0 none 293 6 T)], []]) (G := [[]]) rfl (Qyx z n T hr (.inl rfl)))
 exact h1
theorem Qgc (p : Nat -> Nat -> Bool) : ∀ l : List UInt8, Qx p (Qc l) = false
 | [] => rfl
 | b :: l => by
   have := Qgc p l
   simp only [Qc, Zlh, Qx, V.refs, Zmx] at this ⊢; exact this
theorem Qiu {l : List UInt8} : ∀ {j : Nat}, 8 * j <= l.length -> wok (Qdq l j)
 | 0, _ => (show wok ⟨1, 2, 3, 4⟩ from ⟨by decide, by decide, by decide, by decide⟩)
 | j + 1, h => Q2q (Qiu (by omega)) (by simp; omega)
theorem Q0b (v : V) (l : List UInt8) (hv : Q1 v l) (hl : l.length <= 2097152) (m : Nat) (hm : l.length = 8 * m) (n : Nat) (T : List V) (hT : T.length = 47) (h3 : T.getD 3 .bad = .ptr 0 3 0) (hr : Qx (fun f _ => Nat.ble 1 f) T = false) :
 CW Tryz.prog Qz 214 [.yield 0 1000006, .iptr [v] 0, .iptr [.int .i64 8] 0] [[(2, .cells zW), (3, .cells (wc ⟨1, 2, 3, 4⟩)), (11, .grow n), (1000006, .loop 0 none 293 6 T)]] fun r H' => r = .ret (.tuple []) /\ H' = [[(2, .cells zW), (3, .cells (wc (Qdq l m))), (11, .grow n), (1000006, .loop 0 none 293 6 T)]] :=
 Q3n v l hv (by omega) 8 (by omega) (by omega) m hm 0 1000006 (fun j => [[(2, .cells zW), (3, .cells (wc (Qdq l j))), (11, .grow n), (1000006, .loop 0 none 293 6 T)]]) (fun _ => rfl) (Qyx _ n T hr (.inr rfl))
  (fun j hj w hw => Qw6 (Qdq l j) (Qiu (by omega)) n T hT h3 hr w _ hw (by simp; omega))
def Kg (n : Nat) : Nat := (8 - (n + 1) % 8) % 8
noncomputable def Qal (l : List UInt8) : W4 :=
 let y := Qdq (Qag l (Kg l.length)) ((l.length + 1 + Kg l.length) / 8)
 K0 8 ⟨y.a, Nat.xor y.b l.length, y.c, y.d⟩
theorem Qzi (v : V) (l : List UInt8) (hv : Q1 v l) (hl : l.length <= 1048576) : Fz Tryz.prog Qz 293 [v] fun r => r = .agg (wc (Qal l)) := by
 refine Jy Tryz.func293 rfl ?_
 obtain ⟨v1, hv1, hm1⟩ := (scl_fz v l hv hl).op (by rfl) (Qt (hv.frz _) rfl)
 have hm1' : ∀ s H, _ := fun s H => hm1 293 0 s H rfl
 obtain ⟨v2, ⟨hv2, hc2⟩, hm2⟩ := (Q58 v1 l hv1 hl).op (by rfl) (Qt (hv1.frz _) rfl)
 have hm2' : ∀ s H, _ := fun s H => hm2 293 0 s H rfl
 have ez : ([.int .u32 0, .int .u32 0, .int .u32 0, .int .u32 0] : List V) = zW := rfl
 have ew : ([.int .u32 1, .int .u32 2, .int .u32 3, .int .u32 4] : List V) = wc ⟨1, 2, 3, 4⟩ := rfl
 have dz : zW.drop 4 = [] := rfl
 have bv : Xw Tryz.prog 363 [(0, .int .u32 1), (1, .int .u32 2), (2, .int .u32 3), (3, .int .u32 4)] = some (.agg (wc ⟨1, 2, 3, 4⟩)) := by kernel_rfl
 have mt : ∀ s, Qz.mt 293 s = false := fun s => rfl
 have sc1 : ∀ g, Qy g 1 (.iS [.int .u8 1] 1 true) = some ([.int .u8 1], 1) := fun g => rfl
 have pe : Qc l ++ [.int .u8 1] = Qc (Qag l 0) := by simp [Qag, Qc]
 have ap : Zj Tryz.prog (Qz.mt 293) 0 (Qb [[(2, .cells zW), (3, .cells (wc ⟨1, 2, 3, 4⟩))]]) (some 11) 25 25 v2 (.iS [.int .u8 1] 1 true) = some (.val (.gS 0 11 (Qc (Qag l 0)) (l.length + 1) 1) (some (0, 11, .grow (l.length + 1)))) := by
  have len2 := hv2
  rcases hc2 with rfl | ⟨c, n, rfl⟩
  . have h0 : l = [] := by
     obtain ⟨hlen, ⟨_, h⟩ | ⟨f, h⟩⟩ := hv2
     . exact Zna h
     . cases h
    subst h0
    rw [Qgg Tryz.underlying25 sz5 Qn5 zc5 rfl Tryz.underlying25 (sc1 _) (by omega) (by decide), Qcc (mt _) rfl rfl]
    rfl
  . obtain ⟨hlen, ⟨h, _⟩ | ⟨f, h⟩⟩ := hv2
    . cases h
    . cases h
      rw [Qu3 Tryz.underlying25 sz5 Qn5 zc5 rfl Tryz.underlying25 (sc1 _) (by omega) hlen (Qa2 (by omega) (by omega)), Qcc (mt _) rfl rfl, pe]
 simp only [Qn, Qh, Qg, Ql, Qa, Qd, nov, gd, rho, Qe, wr, simprocAttr, Qj, ↓Qi, Tryz.ntmps293, ta, new, Qb, hset, Qu, Qs, Qp, splice, zerosN, Qo, Qr, Qk, V.pure, Qq, hm1', hm2', ez, ew, mt, J9, ap, sc_w, ln_w, Tryz.underlying25, bv, ln_z, dz]
 refine W.ul ?_
 refine W.loopS (kt := [0, 2, 3, 4]) rfl (fun k : Nat => Qzm v (.ptr 0 2 0) (.ptr 0 3 0) (.gS 0 11 (Qc (Qag l k)) (l.length + 1 + k) 1)) (fun k => [[(2, .cells zW), (3, .cells (wc ⟨1, 2, 3, 4⟩)), (11, .grow (l.length + 1 + k))]]) (fun k => k <= Kg l.length) (fun k => Kg l.length - k) ?_ 0 (Nat.zero_le _) rfl rfl
 intro k hk
 have pn : Kg l.length < 8 := Nat.mod_lt _ (by decide)
 simp only [Qzm]
 have lg : ∀ g, Ka Tryz.prog g 25 (.gS 0 11 (Qc (Qag l k)) (l.length + 1 + k) 1) = some (.int .i64 ((l.length + 1 + k : Nat) : Int)) := len_g Tryz.underlying25
 have rm : ∀ a b, Z1 Tryz.prog .rem 3 a b (.int .i64 ((l.length + 1 + k : Nat) : Int)) (.int .i64 8) = some (.int .i64 (((l.length + 1 + k) % 8 : Nat) : Int)) := fun a b => by
  have e : ((l.length + 1 + k : Nat) : Int).tmod 8 = (((l.length + 1 + k) % 8 : Nat) : Int) := by
   rw [Int.tmod_eq_emod_of_nonneg (by omega)]; omega
  rw [<- e]; rfl
 by_cases h : k < Kg l.length
 . have c1 : ((((l.length + 1 + k) % 8 : Nat) : Int) != 0) = true := by
    have : (l.length + 1 + k) % 8 ≠ 0 := by unfold Kg at h pn; omega
    simp only [bne_iff_ne, ne_eq]; omega
   generalize hN : (l.length + 1 + k : Nat) = N at *
   have pk : Qc (Qag l k) ++ [.int .u8 0] = Qc (Qag l (k + 1)) := by rw [<- Qzy, Yr]; rfl
   have ap2 : Zj Tryz.prog (Qz.mt 293) 0 (Qb [[(2, .cells zW), (3, .cells (wc ⟨1, 2, 3, 4⟩)), (11, .grow N)]]) (some 18) 25 25 (.gS 0 11 (Qc (Qag l k)) N 1) (.iS [.int .u8 0] 1 true) = some (.val (.gS 0 11 (Qc (Qag l (k + 1))) (N + 1) 1) (some (0, 11, .grow (N + 1)))) := by
    rw [Qe5 Tryz.underlying25 sz5 Qn5 zc5 rfl Tryz.underlying25 (cs := [.int .u8 0]) (m := 1) rfl (by omega) (Qa2 (by omega) (by omega)) rfl rfl rfl, pk]
   simp only [Qn, Qh, Qg, Ql, Qa, Qd, nov, gd, rho, Qe, wr, simprocAttr, Qj, ↓Qi, ta, new, Qb, hset, Qu, Qs, Qp, splice, zerosN, Qo, Qr, Qk, V.pure, Qq, mt, J9, lg, rm, c1, Tryz.underlying25, ap2]
   have eN : N + 1 = l.length + 1 + (k + 1) := by omega
   refine W.done ⟨k + 1, ?_, ?_, by omega, by omega⟩
   . rw [<- eN]; rfl
   . rw [<- eN]
 . have hk' : k = Kg l.length := by omega
   subst hk'
   have c1 : ((((l.length + 1 + Kg l.length) % 8 : Nat) : Int) != 0) = false := by
    have : (l.length + 1 + Kg l.length) % 8 = 0 := by unfold Kg; omega
    rw [this]; rfl
   have hv3 : Q1 (.iS (Qc (Qag l (Kg l.length))) (l.length + 1 + Kg l.length) false) (Qag l (Kg l.length)) := by
    have := Q1.mk (Qag l (Kg l.length)) false
    rwa [Qc0] at this
   have m8 : l.length + 1 + Kg l.length = 8 * ((l.length + 1 + Kg l.length) / 8) := by unfold Kg; omega
   have pl := Qc0 l (Kg l.length)
   obtain ⟨m3, rfl, hm3⟩ := (Q2m _ _ hv3 8 (by omega)).op' (args := [.gS 0 11 (Qc (Qag l (Kg l.length))) (l.length + 1 + Kg l.length) 1, .int .i64 8]) (by rfl) (Qt (Qnr _ _) rfl)
   have hm3' : ∀ s H, _ := fun s H => hm3 293 0 s H rfl
   have fe : Qal l = K0 8 ⟨(Qdq (Qag l (Kg l.length)) ((l.length + 1 + Kg l.length) / 8)).a, Nat.xor (Qdq (Qag l (Kg l.length)) ((l.length + 1 + Kg l.length) / 8)).b l.length, (Qdq (Qag l (Kg l.length)) ((l.length + 1 + Kg l.length) / 8)).c, (Qdq (Qag l (Kg l.length)) ((l.length + 1 + Kg l.length) / 8)).d⟩ := rfl
   rw [fe]
   generalize hN : (l.length + 1 + Kg l.length : Nat) = N at *
   generalize Qag l (Kg l.length) = L at *
   have ok := Qiu (l := L) (j := N / 8) (by omega)
   have lp := fun T => Q0b _ L hv3 (by omega) (N / 8) (by omega) N T
   generalize Qdq L (N / 8) = y at *
   simp only [Qn, Qh, Qg, Ql, Qa, Qd, nov, gd, rho, Qe, wr, simprocAttr, Qj, ↓Qi, ta, new, Qb, hset, Qu, Qs, Qp, splice, zerosN, Qo, Qr, Qk, V.pure, Qq, mt, J9, lg, rm, c1, Tryz.underlying25]
   refine W.done ?_
   simp only [Qn, Qh, Qg, Ql, Qa, Qd, nov, gd, rho, Qe, wr, simprocAttr, Qj, ↓Qi, ta, new, Qb, hset, Qu, Qs, Qp, splice, zerosN, Qo, Qr, Qk, V.pure, Qq, mt, J9, lg, rm, c1, Tryz.underlying25, hm3']
   refine W.rfunc (rid := 6) rfl rfl rfl ?_
   refine (lp _ rfl rfl ?_).mono ?_
   . simp only [Qx, V.refs, hv.noRefs, Qgc]; rfl
   rintro r H2 ⟨rfl, rfl⟩
   refine ⟨_, rfl, ?_⟩
   rw [Qm5 (st := 0) (f := 293) (r := 6) rfl (by decide) (by simp only [Qx, V.refs, hv.noRefs, Qgc]; rfl) rfl]
   have hH : ∀ T, List.modify [[(2, O.cells zW), (3, .cells (wc y)), (11, .grow N), (1000006, .loop 0 none 293 6 T)]] 0 (J8 fun x => [Zc 6].contains x) = [[(2, .cells zW), (3, .cells (wc y)), (11, .grow N)]] := fun T => rfl
   rw [hH]
   obtain ⟨c, d, e, f⟩ := y
   obtain ⟨yc, yd, ye, yf⟩ := ok
   have len := hv.len Tryz.underlying25
   have cv : ∀ g, convertV Tryz.prog g 3 57 (.int .i64 l.length) = some (.val (.int .u32 l.length) none) := fun g => by
    simp only [convertV, Tryz.underlying3, Tryz.underlying57]
    have : (IntKind.u32).wrap (l.length : Int) = l.length := by rw [IntKind.wrap_u32]; omega
    simp only [this]
   have ll : l.length < 4294967296 := by omega
   have b1 : ∀ a b, Z1 Tryz.prog .xor 57 a b (.int .u32 d) (.int .u32 l.length) = _ := fun a b => xorU d _ yd ll
   have x1 := Qc9 yd ll
   simp only at x1 yc ye yf ⊢
   generalize (Nat.xor d l.length : Nat) = x at *
   obtain ⟨m4, rfl, hm4⟩ := (Quo 8 (by omega) ⟨c, x, e, f⟩ ⟨yc, x1, ye, yf⟩).op (by rfl) rfl
   have hm4' : ∀ s H, AM.callOp Qz (Q5 Tryz.prog Qz) 293 0 s 390 [.agg [.int .u32 c, .int .u32 x, .int .u32 e, .int .u32 f], .int .i64 8] H = _ := fun s H => hm4 293 0 s H rfl
   have sz4 : ∀ w : W4, splice zW 0 (wc w) = wc w := fun w => rfl
   generalize K0 8 ⟨c, x, e, f⟩ = z at *
   have wz : wc ⟨c, d, e, f⟩ = [.int .u32 c, .int .u32 d, .int .u32 e, .int .u32 f] := rfl
   rw [wz]
   simp only [Qn, Qh, Qg, Ql, Qa, Qd, nov, gd, rho, Qe, wr, simprocAttr, Qj, ↓Qi, ta, new, Qb, hset, Qu, Qs, Qp, splice, zerosN, Qo, Qr, Qk, V.pure, Qq, ia0, ia1, ia2, ia3, len, cv, b1, hm4', sc_w, ln_w, rd_w, sp_w, sp_z, ln_z, tk_w, dz]
   exact W.done (Zx.ret (v := .agg (wc z)) rfl rfl rfl)
end
section
set_option maxRecDepth 100000
open Go.AM Go.AM.BM
attribute [local irreducible] U W
def Ke (m : Int) (l : List UInt8) : Int := l.foldl (fun m b => if (b.toNat : Int) > m then b.toNat else m) m
theorem Q35 (v : V) (b : UInt8) (l : List UInt8) (hv : Q1 v (b :: l)) (hl : l.length + 1 <= 281474976710656) :
 CW Tryz.prog Qz 127 [v] [] fun x _ => x = .ret (.int .u8 (Ke b.toNat l)) := by
 refine Xk Tryz.func127 rfl ?_
 have len := hv.len Tryz.underlying25
 have at0 := hv.at (k := .i64) Tryz.underlying25 sz5 (by decide) (i := 0) (by omega) (by simp)
 have get0 : (Qc (b :: l))[(0 : Int).toNat * 1]? = some (.int .u8 b.toNat) := rfl
 have get0' : (Qc (b :: l))[(0 : Int).toNat]? = some (.int .u8 b.toNat) := rfl
 have lt1 : decide (((b :: l).length : Int) < 1) = false := Znw (by simp; omega)
 have hL2 : (b :: l).length = l.length + 1 := rfl
 generalize hL : b :: l = L at *
 simp only [Qn, Qh, Qg, Ql, Qa, Qd, nov, gd, rho, Qe, wr, Nat.reduceAdd, Nat.reduceSub, if_true, if_false, reduceIte, reduceCtorEq, Nat.reduceLT, Nat.reduceEqDiff, Nat.reduceMul, Nat.reduceLeDiff, Qj, Int.reduceBEq, Int.reduceBNe, Int.reduceLT, Int.reduceLE, ↓Qi, Tryz.ntmps127, ta, new, Qb, hset, Qu, Qs, Qp, splice, zerosN, Qo, Qr, Qk, V.pure, Qq, len, at0, lt1, rd5, get0, get0']
 refine W.ul ?_
 refine W.loopS (kt := [0, 3, 4]) rfl (fun a : Int × Nat => Qsu v (.int .u8 a.1) (.int .i64 a.2)) (fun _ => [[]]) (fun a => a.2 <= L.length /\ Ke a.1 (L.drop a.2) = Ke b.toNat l) (fun a => L.length - a.2) ?_ (b.toNat, 1) ⟨by subst hL; simp, by subst hL; simp⟩ rfl rfl
 rintro ⟨m, i⟩ ⟨hi, hm⟩
 simp only at hi hm
 by_cases h : i < L.length
 . have c1 : decide ((i : Int) < L.length) = true := by simp; omega
   have at1 := hv.at (k := .i64) Tryz.underlying25 sz5 (by decide) (i := (i : Int)) (by omega) (by omega)
   have get1 : (Qc L)[(i : Int).toNat * 1]? = some (.int .u8 L[i].toNat) := by simp [Qa6, h]
   have get1' : (Qc L)[(i : Int).toNat]? = some (.int .u8 L[i].toNat) := by simp [Qa6, h]
   have w1 : (IntKind.i64).wrap ((i : Int) + 1) = ((i + 1 : Nat) : Int) := by rw [wrap_i64] <;> omega
   simp only [Qsu]
   simp only [Qn, Qh, Qg, Ql, Qa, Qd, nov, gd, rho, Qe, wr, simprocAttr, Qj, ↓Qi, ta, new, Qb, hset, Qu, Qs, Qp, splice, zerosN, Qo, Qr, Qk, V.pure, Qq, len, c1, at1, rd5, get1, get1', w1]
   refine W.done ⟨(_, i + 1), rfl, rfl, ⟨by simp only; omega, ?_⟩, by simp only; omega⟩
   rw [<- hm, Znm h]
   rfl
 . have c1 : decide ((i : Int) < L.length) = false := by simp; omega
   simp only [Qsu]
   simp only [Qn, Qh, Qg, Ql, Qa, Qd, nov, gd, rho, Qe, wr, simprocAttr, Qj, ↓Qi, len, c1]
   refine W.done ?_
   have : m = Ke b.toNat l := by rw [<- hm, Zm2 (by omega)]; rfl
   subst this
   simp only [Qn, Qh, Qg, Ql, Qa, Qd, nov, gd, rho, Qe, wr, simprocAttr, Qj, ↓Qi]
   exact W.done (End.ret (v := .int .u8 (Ke b.toNat l)) rfl rfl)
theorem byteB {v : V} (h : Qlk v = true) : ∃ b : UInt8, v = .int .u8 b.toNat := by
 cases v with
 | int k a =>
   cases k <;> try (cases a <;> cases h)
   cases a with
   | ofNat n =>
     have : n < 256 := by
      simp only [Qlk, Nat.blt] at h
      have := Zmy h
      omega
     refine ⟨UInt8.ofNat n, ?_⟩
     have e : (UInt8.ofNat n).toNat = n := by simp; omega
     rw [e]; rfl
   | negSucc n => cases h
 | _ => cases h
theorem Qdp {x : V} {c : List V} (h : Qid x = some c) : ∃ l : List UInt8, c = Qc l /\ Q1 x l /\ l.length <= 1048576 := by
 have key : ∀ c : List V, c.all Qlk = true -> ∃ l : List UInt8, c = Qc l := by
  intro c
  induction c with
  | nil => intro _; exact ⟨[], rfl⟩
  | cons v c ih =>
    intro h
    simp only [List.all_cons, Zlm] at h
    obtain ⟨b, rfl⟩ := byteB h.1
    obtain ⟨l, rfl⟩ := ih h.2
    exact ⟨b :: l, rfl⟩
 cases x with
 | nS => cases h; exact ⟨[], rfl, Zq.nil, by simp⟩
 | iS xs n f =>
   simp only [Qid] at h
   split at h
   case isFalse => cases h
   rename_i hc
   cases h
   simp only [Zlm] at hc
   obtain ⟨h1, h2, h3⟩ := hc
   obtain ⟨l, rfl⟩ := key _ h3
   have e1 := Znh h1
   have e2 := Zmy h2
   have e3 : (Qc l).length = l.length := by simp [Qc]
   rw [e3] at e1
   subst e1
   exact ⟨l, rfl, Zq.mk (by rw [e3]; omega), e2⟩
 | _ => cases h
theorem Qj4 : ∀ (l : List UInt8) (m : Nat), Int.ofNat (maxV (Qc l) m) = Ke m l
 | [], m => rfl
 | b :: l, m => by
   have e : maxV (Qc (b :: l)) m = Bool.rec (motive := fun _ => Nat) (maxV (Qc l) m) (maxV (Qc l) b.toNat) (Nat.ble (Nat.succ m) b.toNat) := rfl
   have e2 : Ke m (b :: l) = Ke (if (b.toNat : Int) > m then b.toNat else m) l := rfl
   rw [e, e2]
   cases hb : Nat.ble (Nat.succ m) b.toNat with
   | true =>
     have := Zmy hb
     rw [if_pos (by omega)]; exact Qj4 l _
   | false =>
     have : ¬ Nat.succ m <= b.toNat := fun h => by rw [Zng h] at hb; cases hb
     rw [if_neg (by omega)]; exact Qj4 l _
theorem Q7z (ys : List V) (v : V) (h : kMax ys = some v) : FzN Tryz.prog Qz 127 ys v := by
 unfold kMax at h
 split at h
 case h_2 => cases h
 rename_i x
 split at h
 case h_2 => cases h
 rename_i v0 c hc
 cases h
 obtain ⟨l, e, hb, hl⟩ := Qdp hc
 cases l with
 | nil => cases e
 | cons b l =>
   cases e
   obtain ⟨r, H, e1, rfl⟩ := Q35 x b l hb (by simp only [Zld] at hl; omega)
   have e3 := Qj4 l b.toNat
   show FzN _ _ _ _ (.int .u8 (Int.ofNat (maxV (Qc l) b.toNat)))
   rw [e3]
   exact ⟨_, _, e1, rfl⟩
end
section
set_option maxRecDepth 100000
open Go.AM Go.AM.BM
attribute [local irreducible] U W
theorem sum_cw (v : V) (l : List UInt8) (hv : Q1 v l) (hl : l.length <= 1048576) : CW Tryz.prog Qz 194 [v] [] fun r _ => r = .ret (.int .u32 (Qal l).a) := by
 refine Xk Tryz.func194 rfl ?_
 obtain ⟨m, rfl, hm⟩ := (Qzi v l hv hl).op (by rfl) (Qt (hv.frz _) rfl)
 have hm' : ∀ s H, _ := fun s H => hm 194 0 s H rfl
 have ix : Qd2 Tryz.prog 363 (.agg (wc (Qal l))) (.int .i64 0) = some (.int .u32 (Qal l).a) := by
  simp only [Qd2, Tryz.underlying363, Qsv]; rfl
 generalize Qal l = z at *
 simp only [Qn, Qh, Qg, Ql, Qa, Qd, nov, gd, rho, Qe, wr, simprocAttr, Qj, ↓Qi, Tryz.ntmps194, ta, new, Qb, hset, Qu, Qs, Qp, splice, zerosN, Qo, Qr, Qk, V.pure, Qq, hm', ix]
 exact W.done (End.ret (v := .int .u32 z.a) rfl rfl)
noncomputable def Qk4 : List UInt8 -> Nat -> W4 -> W4
 | _, 0, x => x
 | L, m + 1, x => Qk4 (L.drop 8) m (Qhg x (L.take 8))
theorem Qmu : ∀ (j : Nat) (L : List UInt8) (x : W4), Qk4 L (j + 1) x = Qhg (Qk4 L j x) ((L.drop (8 * j)).take 8)
 | 0, L, x => rfl
 | j + 1, L, x => by
   have := Qmu j (L.drop 8) (Qhg x (L.take 8))
   rw [Qk4, this, Zl1, show 8 + 8 * j = 8 * (j + 1) by omega]
   rfl
theorem Qyq : ∀ (j : Nat) (L : List UInt8), Qdq L j = Qk4 L j ⟨1, 2, 3, 4⟩
 | 0, L => rfl
 | j + 1, L => by rw [Qmu, Qdq, Qyq j L]
theorem Qpv : ∀ (m n : Nat) (L : List UInt8) (x : W4), L.length = 8 * m -> m <= n -> Qii n (Qc L) x = Qk4 L m x
 | 0, n, L, x, h, _ => by
   have : L = [] := Zna h
   subst this; cases n <;> rfl
 | m + 1, n, L, x, h, hn => by
   obtain ⟨n, rfl⟩ : ∃ k, n = k + 1 := ⟨n - 1, by omega⟩
   match L, h with
   | a :: b :: c :: d :: e :: f :: g :: i :: r, h =>
     have ih := Qpv m n r (Qhg x [a, b, c, d, e, f, g, i]) (by simp only [Zld] at h; omega) (by omega)
     have e1 : Qk4 (a :: b :: c :: d :: e :: f :: g :: i :: r) (m + 1) x = Qk4 r m (Qhg x [a, b, c, d, e, f, g, i]) := rfl
     have e2 : Qii (n + 1) (Qc (a :: b :: c :: d :: e :: f :: g :: i :: r)) x = Qcr (Nat.xor x.a (J7 [a, b, c, d])) fun p => Qcr (Nat.xor x.c (J7 [e, f, g, i])) fun q => Qii n (Qc r) (K0 (nat_lit 4) ⟨p, x.b, q, x.d⟩) := rfl
     rw [e1, <- ih, e2, Qix, Qix]
     rfl
   | [], h => simp at h
   | [_], h => simp at h; omega
   | [_, _], h => simp at h; omega
   | [_, _, _], h => simp at h; omega
   | [_, _, _, _], h => simp at h; omega
   | [_, _, _, _, _], h => simp at h; omega
   | [_, _, _, _, _, _], h => simp at h; omega
   | [_, _, _, _, _, _, _], h => simp at h; omega
theorem Qrj (l : List UInt8) : Qk2 (Qc l) = Qal l := by
 have hp : pad8 (Qc l) = Qc (Qag l (Kg l.length)) := by
  simp [pad8, Qag, Kg, Qc]
 have m8 : l.length + 1 + Kg l.length = 8 * ((l.length + 1 + Kg l.length) / 8) := by unfold Kg; omega
 have pn : Kg l.length < 8 := Nat.mod_lt _ (by decide)
 have h := Qpv ((l.length + 1 + Kg l.length) / 8) (l.length + 1) (Qag l (Kg l.length)) ⟨1, 2, 3, 4⟩ (by rw [Qc0]; exact m8) (by omega)
 have e : Qk2 (Qc l) = (match Qii ((Qc l).length + 1) (pad8 (Qc l)) ⟨1, 2, 3, 4⟩ with
  | x => K0 8 ⟨x.a, Nat.xor x.b (Qc l).length, x.c, x.d⟩) := rfl
 rw [e, hp, Z5, h, <- Qyq]
 rfl
theorem Q7i (ys : List V) (v : V) (h : kSum ys = some v) : FzN Tryz.prog Qz 194 ys v := by
 unfold kSum at h
 split at h
 case h_2 => cases h
 rename_i x
 split at h
 case h_2 => cases h
 rename_i c hc
 cases h
 obtain ⟨l, rfl, hb, hl⟩ := Qdp hc
 obtain ⟨r, H, e1, rfl⟩ := sum_cw x l hb hl
 rw [Qrj]
 exact ⟨_, _, e1, rfl⟩
end
section
open Go.AM
theorem Q1f : ∀ c : Code, BM.drawsC c = drawsC c := by
 intro c
 induction c with
 | region id ops draw => rfl
 | seq a b iha ihb => simp only [BM.drawsC, drawsC, iha, ihb]
 | cond c a b iha ihb => simp only [BM.drawsC, drawsC, iha, ihb]
 | rangeFunc g ps a b iha ihb => simp only [BM.drawsC, drawsC, iha, ihb]
 | block i b ih => simp only [BM.drawsC, drawsC, ih]
 | loop b ih => simp only [BM.drawsC, drawsC, ih]
 | scope b ih => simp only [BM.drawsC, drawsC, ih]
 | _ => rfl
theorem Q5x : ∀ c : Code, BM.flatC c = flatC c := by
 intro c
 induction c with
 | seq a b iha ihb => simp only [BM.flatC, flatC, iha, ihb]
 | cond c a b iha ihb => simp only [BM.flatC, flatC, iha, ihb]
 | block i b ih => simp only [BM.flatC, flatC, ih]
 | loop b ih => simp only [BM.flatC, flatC, ih]
 | scope b ih => simp only [BM.flatC, flatC, ih]
 | _ => rfl
end
section
set_option maxRecDepth 100000
open Go.AM
attribute [local irreducible] U W
theorem by27 : byt Tryz.prog 25 = some 24 := by kernel_rfl
theorem by8 : byt Tryz.prog 5 = some 1 := by kernel_rfl
theorem by64 : byt Tryz.prog 3 = some 8 := by kernel_rfl
def Yv (k : Nat) (i : Nat) : List V := (List.range i).map fun j => .mS k 20 (256 * j) 256 (some 256) 1
theorem Qxb (k i : Nat) : Yv k (i + 1) = Yv k i ++ [.mS k 20 (256 * i) 256 (some 256) 1] := by simp [Yv, Zno]
theorem Qma (k i : Nat) (p : Nat -> Nat -> Bool) (h : p k 20 = false) : Qx p (Yv k i) = false := by
 have : ∀ l : List Nat, Qx p (l.map fun j => V.mS k 20 (256 * j) 256 (some 256) 1) = false := by
  intro l
  induction l with
  | nil => rfl
  | cons j l ih => simp only [Zlh, Qx, V.refs, h, ih, Bool.or_self]
 exact this _
def Qmt (k i : Nat) : V := .mS k 20 (if i < 256 then 256 * i else 65280) (65536 - 256 * i) (some (65536 - 256 * i)) 1
theorem Qfo {K : Heap} (hw : WF K) {p : Nat -> Nat -> Bool} (hp : ∀ f s, p f s = true -> K.length <= f) : Zh p K = true := by
 refine Qe8 (fun f s h => ?_) K hw
 simp only [Nat.ble_eq]
 exact hp f s h
def Qru (k i : Nat) : V := if i = 0 then .nS else .gS k 33 (Yv k i) i 1
def frM (Z : List V) (i : Nat) : AM.Frame := if i = 0 then [(20, .cells Z)] else [(20, .cells Z), (33, .grow i)]
def Qx5 (Z : List V) (x : V) (i : Nat) : AM.Frame := if i = 0 then [(20, .cells Z)] else [(20, .cells Z), (32, .cells [x]), (33, .grow i)]
theorem Q7n (Z : List V) (x : V) (i : Nat) : J8 (fun s => [32].contains s) (Qx5 Z x i) = frM Z i := by
 unfold frM Qx5; split <;> rfl
theorem cut_nn {P : Program} {u e : TypeId} (hu : P.underlying u = some (.slice e)) {q : Nat} (hs : sz P e = some q) {g : Get} {f s o len c n : Nat} {k : IntKind} (h : n <= c) :
 Z4 P g u (.mS f s o len (some c) q) none (some (.int k n)) (some (.int k n)) = some (.mS f s o n (some n) q) := by
 simp only [Z4, Bb, hu, hs, if_true, Qn3, B3, Znb, Zmw]
 rw [if_pos ⟨by omega, by omega, by omega, by omega, by omega, by omega, by simp⟩]
 simp
theorem Q6e (K : Heap) (Z : List V) (i : Nat) (hi : i < 256) (x : V) (hx : x.scalar = true) :
 Zj Tryz.prog (Qz.mt 95) K.length (Qb (K ++ [Qs (frM Z i) 32 (.cells [x])])) (some 33) 53 53 (Qru K.length i) (.mS K.length 32 0 1 (some 1) 1) =
  some (.val (if i = 0 then .gS K.length 33 [x] 1 1 else .gS K.length 33 (Yv K.length i ++ [x]) (i + 1) 1) (some (K.length, 33, .grow (i + 1)))) := by
 have g32 : Qb (K ++ [Qs (frM Z i) 32 (.cells [x])]) K.length 32 = some (.cells [x]) := by
  rw [Jv]
  show Qu (Qs (frM Z i) 32 _) 32 = _
  rw [Qbt]; rfl
 have g33 : Qb (K ++ [Qs (frM Z i) 32 (.cells [x])]) K.length 33 = if i = 0 then none else some (.grow i) := by
  rw [Jv]
  show Qu (Qs (frM Z i) 32 _) 33 = _
  rw [Qbt, if_neg (by decide)]
  unfold frM; by_cases h : i = 0
  . simp only [h, if_true]; rfl
  . simp only [h, if_false]; rfl
 have sc : Qy (Qb (K ++ [Qs (frM Z i) 32 (.cells [x])])) 1 (.mS K.length 32 0 1 (some 1) 1) = some ([x], 1) := by
  simp only [Qy, g32]; rfl
 have hsc : ([x] : List V).all V.scalar = true := by simp [hx]
 unfold Qru
 by_cases h : i = 0
 . subst h
   simp only [if_true] at g33 ⊢
   rw [Qgg Tryz.underlying53 Qjk by27 zc25 rfl Tryz.underlying53 sc (by decide) (by decide)]
   simp [grown, Qz, new, g33]
 . simp only [h, if_false] at g33 ⊢
   have hr : Yw (i + 1) 24 = true := Qa2 (by omega) (by omega)
   simp only [Zj, Tryz.underlying53, Qjk, by27, zc25, Y8, sc, appendTo, hr, hsc, g33, Zld, Zml, if_true, and_self]
theorem Qkd (p : Nat -> Nat -> Bool) (z : List V) (n : Nat) (h : Qx p z = false) : Qx p (zerosN z n) = false := by
 induction n with
 | zero => rfl
 | succ n ih =>
   have app : ∀ a b : List V, Qx p a = false -> Qx p b = false -> Qx p (a ++ b) = false := by
    intro a b ha hb
    induction a with
    | nil => exact hb
    | cons x a iha => simp only [Qx, Zmj, Zm9] at ha ⊢; exact ⟨ha.1, iha ha.2⟩
   exact app _ _ h ih
theorem Q2h (K : Heap) (hw : WF K) (v : V) (L : List Int) (hl : L.length = 256) (hL : ∀ i, i < 256 -> L[i]? = some 256) (hv : Bu v L) :
 CW Tryz.prog Qz 95 [v] K fun r K' => r = .ret (.gS K.length 33 (Yv K.length 256) 256 1) /\ K' = K ++ [[(20, .cells (zerosN [.int .u8 0] 65536)), (33, .grow 256)]] := by
 refine Xk Tryz.func95 rfl ?_
 have len := hv.len Tryz.underlying46
 rw [hl] at len
 have at0 : ∀ i : Nat, i < 256 -> Q9 Tryz.prog 46 v (.int .i64 i) = some (.iptr (Q3 L) ((i : Int).toNat * 1)) := fun i h => by
  exact hv.at Tryz.underlying46 sz3 (by decide) (by omega) (by rw [hl]; omega)
 have get0 : ∀ i : Nat, i < 256 -> (Q3 L)[(i : Int).toNat * 1]? = some (.int .i64 256) := fun i h => by
  rw [Qxs]; simp [hL i h]
 simp only [Qn, Qh, Qg, Ql, Qa, Qd, nov, gd, rho, Qe, wr, simprocAttr, Tryz.ntmps95, len]
 refine W.ul ?_
 refine W.loopS (kt := [0, 2, 3, 9, 10, 11]) rfl (fun i : Nat => Q4n v .nS (.int .i64 ((256 * i : Nat) : Int)) v (.int .i64 ((256 : Nat) : Int)) (.int .i64 i)) (fun _ => K ++ [[]]) (fun i => i <= 256) (fun i => 256 - i) ?_ 0 (by omega) rfl rfl
 rintro i hi
 simp only [Q4n]
 by_cases h : i < 256
 . have c1 : decide ((i : Int) < ((256 : Nat) : Int)) = true := Znv (by omega)
   have w1 := B0 (i := i) (by omega)
   have w2 : (IntKind.i64).wrap (((256 * i : Nat) : Int) + 256) = ((256 * (i + 1) : Nat) : Int) := by rw [wrap_i64] <;> omega
   simp only [Qn, Qh, Qg, Ql, Qa, Qd, nov, gd, rho, Qe, wr, Nat.reduceAdd, Nat.reduceSub, if_true, if_false, reduceIte, reduceCtorEq, Nat.reduceLT, Nat.reduceEqDiff, Nat.reduceMul, Nat.reduceLeDiff, c1, at0 i h, rd3, get0 i h, w1, w2]
   exact W.done ⟨i + 1, rfl, rfl, by omega, by omega⟩
 . have c1 : decide ((i : Int) < ((256 : Nat) : Int)) = false := Znw (by omega)
   have hi2 : i = 256 := by omega
   subst hi2
   simp only [Qn, Qh, Qg, Ql, Qa, Qd, nov, gd, rho, Qe, wr, simprocAttr, c1]
   refine W.done ?_
   have e1 : ((256 * 256 : Nat) : Int) = 65536 := rfl
   have rm : Yw 65536 1 = true := by decide
   generalize hZ : zerosN [V.int .u8 0] 65536 = Z
   have hZ' : zerosN [V.int .u8 0] (65536 : Int).toNat = Z := hZ
   simp only [Qn, Qh, Qg, Ql, Qa, Qd, nov, gd, rho, Qe, wr, simprocAttr, e1, Tryz.underlying25, sz5, by8, zc5, Int.reduceLE, Int.reduceToNat, rm, and_self, new, Qm8, Qu, Qs, len, hZ, hZ']
   refine W.ul ?_
   have hk32 : ∀ i, (Qru K.length i).refs (fun f s => f == K.length && [32].contains s) = false := by
    intro i
    unfold Qru
    split
    . rfl
    . have := Qma K.length i (fun f s => f == K.length && [32].contains s) (by simp)
      simp only [V.refs, this]; simp
   refine W.loop (fun (i : Nat) t H => ∃ x : V, Bi [2, 6, 21, 22, 23] t 0 = Qwl (Qru K.length i) (Qmt K.length i) v (.int .i64 ((256 : Nat) : Int)) (.int .i64 i) /\ i <= 256 /\ H = K ++ [Qx5 Z x i] /\ x.refs (fun f s => f == K.length && [32].contains s) = false)
    (fun i => 256 - i) ?_ 0 ⟨.bad, rfl, by omega, rfl, rfl⟩ rfl
   rintro i t H ⟨x, ht, hi, rfl, hx⟩
   have vr : v.refs (fun f s => f == K.length && [32].contains s) = false := hv.noRefs _
   have zr : Qx (fun f s => f == K.length && [32].contains s) Z = false := by rw [<- hZ]; exact Qkd _ _ _ rfl
   have hd : (K ++ [Qx5 Z x i]).modify K.length (J8 fun s => [32].contains s) = K ++ [frM Z i] := by
    have := Qbz (J8 fun s => [32].contains s) K [Qx5 Z x i] 0
    rw [Zm6] at this
    rw [this, <- Q7n Z x i]; rfl
   refine ⟨_, _, J4 (kt := [2, 6, 21, 22, 23]) (ds := [32]) rfl ?_ ?_, ?_⟩
   . rw [ht]
     simp only [Qwl, Qx, V.refs, hk32 i, vr, Qmt]; simp
   . rw [hd, Bg, Qfo hw (fun f s h => by simp at h; omega)]
     unfold frM
     split <;> simp only [Zh, Zo, O.refs, zr] <;> rfl
   rw [ht, hd]
   simp only [Qwl]
   by_cases h : i < 256
   . have c1 : decide ((i : Int) < ((256 : Nat) : Int)) = true := Znv (by omega)
     have w1 := B0 (i := i) (by omega)
     have rs : Qmt K.length i = .mS K.length 20 (256 * i) (65536 - 256 * i) (some (65536 - 256 * i)) 1 := by simp only [Qmt, h, if_true]
     have rs2 : V.mS K.length 20 (if 65536 - 256 * i = 256 then 256 * i else 256 * i + 256 * 1) (65536 - 256 * i - 256) (some (65536 - 256 * i - 256)) 1 = Qmt K.length (i + 1) := by
      unfold Qmt
      have e1 : 65536 - 256 * i - 256 = 65536 - 256 * (i + 1) := by omega
      rw [e1]
      congr 1
      by_cases h2 : i = 255
      . subst h2; rfl
      . rw [if_neg (by omega), if_pos (by omega)]; omega
     have sl1 : ∀ g, Z4 Tryz.prog g 25 (.mS K.length 20 (256 * i) (65536 - 256 * i) (some (65536 - 256 * i)) 1) none (some (.int .i64 256)) (some (.int .i64 256)) = some (.mS K.length 20 (256 * i) 256 (some 256) 1) :=
      fun g => cut_nn (n := 256) Tryz.underlying25 sz5 (by omega)
     have sl2 : ∀ g, Z4 Tryz.prog g 25 (.mS K.length 20 (256 * i) (65536 - 256 * i) (some (65536 - 256 * i)) 1) (some (.int .i64 256)) none none = some (Qmt K.length (i + 1)) := fun g => by
      rw [<- rs2]; exact Quu (w := 256) Tryz.underlying25 sz5 (by omega) (by omega) g
     have n32 : Qb (K ++ [frM Z i]) K.length 32 = none := by
      rw [Jv]; show Qu (frM Z i) 32 = none; unfold frM; split <;> rfl
     have s32 : ∀ o, hset (K ++ [frM Z i]) K.length 32 o = K ++ [Qs (frM Z i) 32 o] := fun o => Kv _ _ _ _
     have s33 : ∀ y, hset (K ++ [Qs (frM Z i) 32 (.cells [y])]) K.length 33 (.grow (i + 1)) = K ++ [Qx5 Z y (i + 1)] := fun y => by
      rw [Kv]; show K ++ [Qs (Qs (frM Z i) 32 _) 33 _] = _
      unfold frM Qx5; rw [if_neg (Znp i)]; split <;> rfl
     have ap := Q6e K Z i h (.mS K.length 20 (256 * i) 256 (some 256) 1) rfl
     have eo : (if i = 0 then V.gS K.length 33 [.mS K.length 20 (256 * i) 256 (some 256) 1] 1 1 else .gS K.length 33 (Yv K.length i ++ [.mS K.length 20 (256 * i) 256 (some 256) 1]) (i + 1) 1) = Qru K.length (i + 1) := by
      unfold Qru
      rw [if_neg (Znp i), Qxb]
      by_cases h0 : i = 0
      . subst h0; rfl
      . rw [if_neg h0]
     rw [eo] at ap
     have mt32 : Qz.mt 95 32 = true := rfl
     have get1 : (Q3 L)[(i : Int).toNat]? = some (.int .i64 256) := by have := get0 i h; rwa [Zlx] at this
     rw [rs]
     simp only [Qn, Qh, Qg, Ql, Qa, Qd, nov, gd, rho, Qe, wr, Nat.reduceAdd, Nat.reduceSub, if_true, if_false, reduceIte, reduceCtorEq, Nat.reduceLT, Nat.reduceEqDiff, Nat.reduceMul, Nat.reduceLeDiff, c1, at0 i h, rd3, get0 i h, get1, w1, sl1, sl2, Tryz.underlying53, Qjk, zc25, mt32, new, n32, s32, J9, ap, s33, splice, zerosN, Qo, Qr, Qk, V.pure, Qq]
     exact W.done ⟨i + 1, ⟨_, rfl, by omega, rfl, by simp [V.refs]⟩, by omega⟩
   . have c1 : decide ((i : Int) < ((256 : Nat) : Int)) = false := Znw (by omega)
     have hi2 : i = 256 := by omega
     subst hi2
     simp only [Qn, Qh, Qg, Ql, Qa, Qd, nov, gd, rho, Qe, wr, simprocAttr, c1]
     refine W.done ?_
     simp only [Qn, Qh, Qg, Ql, Qa, Qd, nov, gd, rho, Qe, wr, simprocAttr]
     refine W.done (End.ret (v := Qru K.length 256) rfl ?_)
     rw [Qat (by simp [Qru, V.refs])]
     exact ⟨rfl, rfl⟩
end
section
set_option maxRecDepth 100000
open Go.AM
attribute [local irreducible] U W
def Qpw : V -> Bool
 | .int _ _ => true
 | _ => false
def Yf (c : List V) : Prop := c.length = 256 /\ c.all Qpw = true
theorem Qs9 {x : V} (h : Qpw x = true) : x.scalar = true := by cases x <;> first | rfl | cases h
theorem Qk1 {c : List V} (h : c.all Qpw = true) : c.all V.scalar = true := by
 rw [Zln] at h ⊢
 exact fun x hx => Qs9 (h x hx)
theorem Qqg (p : Nat -> Nat -> Bool) : ∀ {c : List V}, c.all Qpw = true -> Qx p c = false
 | [], _ => rfl
 | x :: c, h => by
   simp only [List.all_cons, Zlm] at h
   simp only [Qx, Qqg p h.2, Bool.or_false]
   cases x <;> first | rfl | (cases h.1)
theorem Q4p (K : Heap) (c : List V) (fl : Bool) (hc : Yf c) :
 CW Tryz.prog Qz 46 [.iS c 256 fl] K fun r K' => r = .ret (.mS K.length 7 0 256 none 1) /\ K' = K ++ [[(5, .cells []), (7, .cells c)]] := by
 refine Xk Tryz.func46 rfl ?_
 have nn := Qgq (P := Tryz.prog) (t := 25) Tryz.underlying25 (x := .tmp 3) (y := .const (.slice none 0 0)) (cs := c) (n := 256) (f := fl)
 have mt5 : Qz.mt 46 5 = true := rfl
 have mt7 : Qz.mt 46 7 = true := rfl
 have sc : ∀ g, Qy g 1 (.iS c 256 fl) = some (c, 256) := fun g => by simp [Qy, hc.1]
 have s5 : hset (K ++ [[]]) K.length 5 (.cells []) = K ++ [[(5, .cells [])]] := by rw [Kv]; rfl
 have n5 : Qb (K ++ [[]]) K.length 5 = none := by rw [Jv]; rfl
 have n7 : Qb (K ++ [[(5, O.cells [])]]) K.length 7 = none := by rw [Jv]; rfl
 have g5 : Qb (K ++ [[(5, O.cells [])]]) K.length 5 = some (.cells []) := by rw [Jv]; rfl
 have ap : Zj Tryz.prog (Qz.mt 46) K.length (Qb (K ++ [[(5, O.cells [])]])) (some 7) 25 25 (.mS K.length 5 0 0 (some 0) 1) (.iS c 256 fl) = some (.val (.mS K.length 7 0 256 none 1) (some (K.length, 7, .cells c))) := by
  simp only [Zj, Tryz.underlying25, sz5, by8, zc5, Y8, sc, appendTo, g5]
  simp [grown, mt7, new, n7, Qk1 hc.2, Yw]
 have s7 : hset (K ++ [[(5, O.cells [])]]) K.length 7 (.cells c) = K ++ [[(5, .cells []), (7, .cells c)]] := by rw [Kv]; rfl
 simp only [Qn, Qh, Qg, Ql, Qa, Qd, nov, gd, rho, Qe, wr, simprocAttr, Tryz.ntmps46, nn, mt5, new, n5, s5, J9, ap, s7, Tryz.underlying25, sz5, zc5, splice, zerosN, Qo, Qr, Qk, V.pure, Qq]
 refine W.done (End.ret (v := .mS K.length 7 0 256 none 1) rfl ?_)
 rw [Qat (by simp [V.refs])]
 exact ⟨rfl, rfl⟩
theorem Qnc (g : Get) (n : Nat) : ∀ {c : List V}, c.all Qpw = true -> Zb (frz g (n + 1)) c = some c
 | [], _ => rfl
 | x :: c, h => by
   simp only [List.all_cons, Zlm] at h
   have hx : frz g (n + 1) x = some x := by cases x <;> first | rfl | (cases h.1)
   simp only [Zb, hx, Qnc g n h.2]
theorem Qj9 {g : Get} {f s o len esz m : Nat} {cap : Option Nat} {xs : List V} (hg : g f s = some (.cells xs)) (hl : o + len * esz <= xs.length) (hx : Zb (frz g (m + 1)) ((xs.drop o).take (len * esz)) = some ((xs.drop o).take (len * esz))) :
 frz g (m + 2) (.mS f s o len cap esz) = some (.iS ((xs.drop o).take (len * esz)) len (cap == some len)) := by
 have e : frz g (m + 2) (.mS f s o len cap esz) = (match g f s with
  | some (.cells xs) => if o + len * esz <= xs.length then (Zb (frz g (m + 1)) ((xs.drop o).take (len * esz))).map fun cs => .iS cs len (cap == some len) else none
  | _ => none) := rfl
 rw [e, hg]
 simp only [hl, if_true, hx, Zkw]
theorem Q3o (c : List V) (fl : Bool) (hc : Yf c) : Fz Tryz.prog Qz 46 [.iS c 256 fl] fun r => r = .iS c 256 false := by
 refine Fz.of_cw ((Q4p [] c fl hc).mono ?_)
 rintro r H' ⟨rfl, rfl⟩
 have e : (c.drop 0).take (256 * 1) = c := by
  rw [Zm4, Znn (Nat.le_of_eq hc.1)]
 have hf := Qj9 (g := Qb ([] ++ [[(5, O.cells []), (7, O.cells c)]])) (f := 0) (s := 7) (o := 0) (len := 256) (esz := 1) (cap := none) (xs := c) (m := 10) rfl (by rw [hc.1]; exact Zk0 _) (by rw [e]; exact Qnc _ _ hc.2)
 exact ⟨_, rfl, _, hf, by rw [e]; rfl⟩
structure Qmo (K : Heap) (bv : V) (r : Nat -> List V) : Prop where
 len : ∀ g, Ka Tryz.prog g 53 bv = some (.int .i64 256)
 ex : ∃ p q : Nat -> V, (∀ i : Nat, i < 256 -> Q9 Tryz.prog 53 bv (.int .i64 (i : Int)) = some (p i)) /\ (∀ i, i < 256 -> ∀ G, ldV Tryz.prog 25 (Qb (K ++ G)) (p i) = some (q i)) /\ ∀ i, i < 256 -> ∃ fl, q i = .iS (r i) 256 fl
 rows : ∀ i, i < 256 -> Yf (r i)
 refs : bv.refs (fun f _ => Nat.ble K.length f) = false
 cells : bv.cells = some [bv]
 sc : bv.scalar = true
end
end Go.Proofs.YteagpfbdmiihaaaGreatDoor
