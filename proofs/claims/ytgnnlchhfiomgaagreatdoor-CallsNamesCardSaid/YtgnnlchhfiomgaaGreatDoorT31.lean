/- This file holds in one the texts DI, DM, DJ, D01, D1, D2; each says at its head what it proves. -/
import Derived.Test.YtgnnlchhfiomgaaGreatDoorT18
import Derived.Test.YtgnnlchhfiomgaaGreatDoorT20
import Derived.Test.YtgnnlchhfiomgaaGreatDoorT27
import Derived.Test.YtgnnlchhfiomgaaGreatDoorT28
import Derived.Test.YtgnnlchhfiomgaaGreatDoorT29
import Derived.Test.YtgnnlchhfiomgaaGreatDoorT30
set_option linter.unusedSimpArgs false
set_option linter.unusedVariables false
namespace Go.Proofs.YtgnnlchhfiomgaaGreatDoor
section
set_option maxRecDepth 100000
open Go.AM Go.AM.BM
attribute [local irreducible] U W
theorem Qsn : byt Tryz.prog 5 = some 1 := by kernel_rfl
theorem Qwv {l : List UInt8} {f s n e : Nat} (g : Get) (m : Nat) : frz g (m + 2) (.gS f s (Qj l) n e) = some (.iS (Qj l) n false) := by
 have : Zb (frz g (m + 1)) (Qj l) = some (Qj l) := Qiu _ _ _
 show (Zb (frz g (m + 1)) (Qj l)).map _ = _
 rw [this]; rfl
theorem scl_fz (v : V) (l : List UInt8) (hv : Q1 v l) (hl : l.length <= 1048576) : Fz Tryz.prog Qz 16 [v] fun r => Q1 r l := by
 refine Jt Tryz.func16 rfl ?_
 by_cases hn : v = .nS
 . subst hn
   have h0 : l = [] := by
    obtain ⟨hlen, ⟨_, h⟩ | ⟨f, h⟩⟩ := hv
    . exact Zl4 h
    . cases h
   subst h0
   have e : ∀ p q, Zz Tryz.prog .eql 26 p q .nS .nS = some (.bool true) := fun p q => rfl
   simp only [Qn, Qf, Qg, Ql, Qa, Qc, nov, gd, rho, Qe, wr, simprocAttr, Qi, ↓Qh, Tryz.ntmps16, ta, new, Qb, hset, Qu, Qs, Qp, splice, zerosN, Qo, Qq, Qk, V.pure, Qr, e]
   exact W.done (Zu.ret rfl rfl Q1.nil)
 . have hv' := hv
   obtain ⟨hlen, ⟨h, _⟩ | ⟨f, rfl⟩⟩ := hv
   . exact absurd h hn
   have sc := Zn.sc (g := Qb [[]]) hv'
   have mt7 : Qz.mt 16 7 = false := rfl
   have mt5 : Qz.mt 16 5 = false := rfl
   by_cases h0 : l = []
   . subst h0
     have ap : Zl Tryz.prog (Qz.mt 16) 0 (Qb [[]]) (some 7) 26 26 (.iS [] 0 true) (.iS (Qj []) 0 f) = some (.val (.iS [] 0 true) none) := by
      simp only [Zl, Tryz.underlying26, sz5, Qsn, zc5, Kc, sc]; rfl
     simp only [Qn, Qf, Qg, Ql, Qa, Qc, nov, gd, rho, Qe, wr, simprocAttr, Qi, ↓Qh, Tryz.ntmps16, ta, new, Qb, hset, Qu, Qs, Qp, splice, zerosN, Qo, Qq, Qk, V.pure, Qr, Qge Tryz.underlying26, Yg, ap, mt7, mt5, Tryz.underlying26]
     refine W.done ?_
     refine Zu.ret (v := .iS [] 0 true) (v' := .iS [] 0 true) rfl rfl ?_
     exact Q1.mk [] true
   . have hp : 0 < l.length := List.length_pos_iff.2 h0
     have ap : Zl Tryz.prog (Qz.mt 16) 0 (Qb [[]]) (some 7) 26 26 (.iS [] 0 true) (.iS (Qj l) l.length f) = some (.val (.gS 0 7 (Qj l) l.length 1) (some (0, 7, .grow l.length))) := by
      rw [Qtw Tryz.underlying26 sz5 Qsn zc5 rfl Tryz.underlying26 sc hp rfl (Qa0 (by omega) (by omega)), Zlh, Zj3, Qbs mt7 (Qc1 l) rfl]
     simp only [Qn, Qf, Qg, Ql, Qa, Qc, nov, gd, rho, Qe, wr, simprocAttr, Qi, ↓Qh, Tryz.ntmps16, ta, new, Qb, hset, Qu, Qs, Qp, splice, zerosN, Qo, Qq, Qk, V.pure, Qr, Qge Tryz.underlying26, Yg, ap, mt7, mt5, Tryz.underlying26]
     refine W.done (Zu.ret (v := .gS 0 7 (Qj l) l.length 1) rfl ?_ (Q1.mk l false))
     exact Qwv _ _
theorem Q7i (v : V) (l : List UInt8) (hv : Q1 v l) (hl : l.length <= 1048576) : Fz Tryz.prog Qz 305 [v] fun r => Q1 r l /\ (r = .nS \/ ∃ c n, r = .iS c n true) := by
 refine Jt Tryz.func305 rfl ?_
 have len := hv.len Tryz.underlying26
 have h2 : ∃ w, (∀ g, Z6 Tryz.prog g 26 v none (some (.int .i64 l.length)) (some (.int .i64 l.length)) = some w) /\ Q1 w l /\ (w = .nS \/ ∃ c n, w = .iS c n true) := by
  have ol : ∀ x : Nat, Bg (some (.int .i64 x)) = some (some (x : Int)) := fun x => rfl
  obtain ⟨hl', ⟨rfl, h0⟩ | ⟨f, rfl⟩⟩ := hv
  . have e : l = [] := Zl4 h0
    subst e
    refine ⟨.nS, fun g => ?_, Q1.nil, .inl rfl⟩
    simp only [Z6, ol, Tryz.underlying26, sz5, Bx]; rfl
  . refine ⟨.iS (Qj l) l.length true, fun g => ?_, Q1.mk _ _, .inr ⟨_, _, rfl⟩⟩
    have on : Bg none = some none := rfl
    simp only [Z6, ol, on, Tryz.underlying26, sz5, Qk8, hl', if_true, Bx, Zlr, Zl5]
    rw [if_pos ⟨by omega, by omega, by omega, by omega, by omega, by omega, by simp⟩]
    have : ((Qj l).take l.length) = Qj l := Zmg (by rw [Yn]; exact Zjw _)
    simp [this]
 obtain ⟨w, sl, hw, hc⟩ := h2
 simp only [Qn, Qf, Qg, Ql, Qa, Qc, nov, gd, rho, Qe, wr, simprocAttr, Qi, ↓Qh, Tryz.ntmps305, ta, new, Qb, hset, Qu, Qs, Qp, splice, zerosN, Qo, Qq, Qk, V.pure, Qr, len, sl]
 exact W.done (Zu.ret (v := w) rfl (hw.frz _) ⟨hw, hc⟩)
def Qaa (l : List UInt8) (k : Nat) : List UInt8 := l ++ 1 :: List.replicate k 0
theorem Qcb (l : List UInt8) (k : Nat) : (Qaa l k).length = l.length + 1 + k := by simp [Qaa]; omega
theorem Q1p (l : List UInt8) (k : Nat) : Qaa l k ++ [0] = Qaa l (k + 1) := by
 simp [Qaa, List.replicate_succ']
noncomputable def Qg0 (y : W4) (p : List UInt8) : W4 := Kw 4 ⟨Nat.xor y.a (Jx (p.take 4)), y.b, Nat.xor y.c (Jx (p.drop 4)), y.d⟩
noncomputable def Qc6 (l : List UInt8) : Nat -> W4
 | 0 => ⟨1, 2, 3, 4⟩
 | j + 1 => Qg0 (Qc6 l j) ((l.drop (8 * j)).take 8)
theorem Qzh {l : List UInt8} (h : l.length = 4) : Jx l < 4294967296 := by
 have := Qld l
 rw [h] at this; exact this
theorem Q4c {y : W4} {p : List UInt8} (hy : wok y) (hp : p.length = 8) : wok (Qg0 y p) := by
 obtain ⟨h1, h2, h3, h4⟩ := hy
 exact Qjt 4 ⟨Qcx h1 (Qzh (by simp; omega)), h2, Qcx h3 (Qzh (by simp; omega)), h4⟩
theorem Qyl (z : W4) (n : Nat) (T : List V) {G : AM.Heap} (hr : Qx (fun f _ => Nat.ble 1 f) T = false) (hG : G = [[]] \/ G = []) : WF ([[(2, .cells zW), (3, .cells [.int .u32 z.a, .int .u32 z.b, .int .u32 z.c, .int .u32 z.d]), (11, .grow n), (1000006, .loop 0 none 195 6 T)]] ++ G) := by
 have h2 : WF [[(2, .cells zW), (3, .cells [.int .u32 z.a, .int .u32 z.b, .int .u32 z.c, .int .u32 z.d]), (11, .grow n), (1000006, .loop 0 none 195 6 T)]] := by
  have h0 : (O.loop 0 none 195 6 T).refs (fun f _ => Nat.ble 1 f) = false := hr
  show Zi (fun f _ => Nat.ble 1 f) _ = true
  simp only [Zi, Zo, h0]; rfl
 rcases hG with rfl | rfl
 . exact h2.app rfl
 . exact h2
theorem Qx0 (y : W4) (hy : wok y) (n : Nat) (T : List V) (hT : T.length = 47) (h3 : T.getD 3 .bad = .ptr 0 3 0) (hr : Qx (fun f _ => Nat.ble 1 f) T = false) (w : V) (p : List UInt8) (hw : Q1 w p) (hp : p.length = 8) :
 Q5 Tryz.prog Qz none [.yield 0 1000006, w] ([[(2, .cells zW), (3, .cells (wc y)), (11, .grow n), (1000006, .loop 0 none 195 6 T)]] ++ [[]]) = some (.ret (.bool true), [[(2, .cells zW), (3, .cells (wc (Qg0 y p))), (11, .grow n), (1000006, .loop 0 none 195 6 T)]] ++ [[]]) := by
 obtain ⟨r, H3, h1, rfl, rfl⟩ := Qum (P := Tryz.prog) (pol := Qz) (fo := 0) (so := 1000006) (args := [w]) (H := [[(2, .cells zW), (3, .cells (wc y)), (11, .grow n), (1000006, .loop 0 none 195 6 T)], []]) (p := none) (fL := 195) (rid := 6) (t0 := T)
  (R := fun r H3 => r = .ret (.bool true) /\ H3 = [[(2, .cells zW), (3, .cells (wc (Qg0 y p))), (11, .grow n), (1000006, .loop 0 none 195 6 T)], []]) rfl (Qqv Tryz.func195 rfl rfl) rfl (by
    change W (U _ _ _ _ _ _ _ .normal (T.set 21 _) _) _
    have hy' := hy
    obtain ⟨ya, yb, yc, yd⟩ := hy'
    obtain ⟨w1, sl1, hw1⟩ := hw.cut (P := Tryz.prog) Tryz.underlying26 sz5 none (some 4) (by simp) (by simp) (by simp only [Zlr]; omega)
    obtain ⟨w2, sl2, hw2⟩ := hw.cut (P := Tryz.prog) Tryz.underlying26 sz5 (some 4) none (by simp) (by simp only [Zlr, Zl5]; omega) (by simp)
    have e1 : (p.drop ((none : Option Int).getD 0).toNat).take (((some (4 : Int)).getD p.length).toNat - ((none : Option Int).getD 0).toNat) = p.take 4 := by simp
    have e2 : (p.drop ((some (4 : Int)).getD 0).toNat).take (((none : Option Int).getD p.length).toNat - ((some (4 : Int)).getD 0).toNat) = p.drop 4 := by
     simp only [Zlr, Zl5, Zl1]
     rw [Zmg (by simp)]; rfl
    rw [e1] at hw1
    rw [e2] at hw2
    simp only [Zjs, Zla] at sl1 sl2
    obtain ⟨m1, rfl, hm1⟩ := (Qps w1 _ hw1 (by simp; omega)).op (by rfl) (Qt (hw1.frz _) rfl)
    obtain ⟨m2, rfl, hm2⟩ := (Qps w2 _ hw2 (by simp; omega)).op (by rfl) (Qt (hw2.frz _) rfl)
    have hm1' : ∀ s H, _ := fun s H => hm1 195 2 s H rfl
    have hm2' : ∀ s H, _ := fun s H => hm2 195 2 s H rfl
    have l1 : Jx (p.take 4) < 4294967296 := Qzh (by simp; omega)
    have l2 : Jx (p.drop 4) < 4294967296 := Qzh (by simp; omega)
    have b1 : ∀ a b, Zz Tryz.prog .xor 27 a b (.int .u32 y.a) (.int .u32 (Jx (p.take 4))) = _ := fun a b => xorU y.a _ ya l1
    have b2 : ∀ a b, Zz Tryz.prog .xor 27 a b (.int .u32 y.c) (.int .u32 (Jx (p.drop 4))) = _ := fun a b => xorU y.c _ yc l2
    have x1 := Qcx ya l1
    have x2 := Qcx yc l2
    have es : Qg0 y p = Kw 4 ⟨Nat.xor y.a (Jx (p.take 4)), y.b, Nat.xor y.c (Jx (p.drop 4)), y.d⟩ := rfl
    rw [es]
    generalize (Nat.xor y.a (Jx (p.take 4)) : Nat) = xa at *
    generalize (Nat.xor y.c (Jx (p.drop 4)) : Nat) = xc at *
    generalize (Jx (p.take 4) : Nat) = n1 at *
    generalize (Jx (p.drop 4) : Nat) = n2 at *
    obtain ⟨m3, rfl, hm3⟩ := (Quq 4 (by omega) ⟨xa, y.b, xc, y.d⟩ ⟨x1, yb, x2, yd⟩).op (by rfl) rfl
    have hm3' : ∀ s H, AM.callOp Qz (Q5 Tryz.prog Qz) 195 2 s 307 [.agg [.int .u32 xa, .int .u32 y.b, .int .u32 xc, .int .u32 y.d], .int .i64 4] H = _ := fun s H => hm3 195 2 s H rfl
    generalize Kw 4 ⟨xa, y.b, xc, y.d⟩ = z at *
    obtain ⟨c, d, e, f⟩ := y
    simp only [wc] at *
    simp only [Qn, Qf, Qg, Ql, Qa, Qc, nov, gd, rho, Qe, wr, simprocAttr, Qi, ↓Qh, new, Qb, hset, Qu, Qs, Qp, splice, zerosN, Qo, Qq, Qk, V.pure, Qr, ta, Qpu, Qp1, Zl8, hT, h3, Nat.reduceBEq]
    refine W.done ⟨rfl, none, 195, 6, T, rfl, ?_⟩
    simp only [Qn, Qf, Qg, Ql, Qa, Qc, nov, gd, rho, Qe, wr, simprocAttr, Qi, ↓Qh, new, Qb, hset, Qu, Qs, Qp, splice, zerosN, Qo, Qq, Qk, V.pure, Qr, ta, Qpu, Qp1, Zl8, hT, h3, Nat.reduceBEq, ia0, ia1, ia2, ia3, sl1, sl2, hm1', hm2', hm3', b1, b2]
    refine W.opsK (by kernel_rfl) ?_
    simp only [Qn, Qf, Qg, Ql, Qa, Qc, nov, gd, rho, Qe, wr, simprocAttr, Qi, ↓Qh, new, Qb, hset, Qu, Qs, Qp, splice, zerosN, Qo, Qq, Qk, V.pure, Qr, ta, Qpu, Qp1, Zl8, hT, h3, Nat.reduceBEq, ia0, ia1, ia2, ia3, sl1, sl2, hm1', hm2', hm3', b1, b2]
    refine W.opsK (by kernel_rfl) ?_
    simp only [Qn, Qf, Qg, Ql, Qa, Qc, nov, gd, rho, Qe, wr, simprocAttr, Qi, ↓Qh, new, Qb, hset, Qu, Qs, Qp, splice, zerosN, Qo, Qq, Qk, V.pure, Qr, ta, Qpu, Qp1, Zl8, hT, h3, Nat.reduceBEq, ia0, ia1, ia2, ia3, sl1, sl2, hm1', hm2', hm3', b1, b2]
    refine W.done ⟨_, _, rfl, rfl, ?_⟩
    exact Qaf (H := [[(2, .cells zW), (3, .cells [.int .u32 z.a, .int .u32 z.b, .int .u32 z.c, .int .u32 z.d]), (11, .grow n), (1000006, .loop 0 none 195 6 T)], []]) (G := [[]]) rfl (Qyl z n T hr (.inl rfl)))
 exact h1
theorem Qfi (p : Nat -> Nat -> Bool) : ∀ l : List UInt8, Qx p (Qj l) = false
 | [] => rfl
 | b :: l => by
   have := Qfi p l
   simp only [Qj, Zkd, Qx, V.refs, Zls] at this ⊢; exact this
theorem Qij {l : List UInt8} : ∀ {j : Nat}, 8 * j <= l.length -> wok (Qc6 l j)
 | 0, _ => (show wok ⟨1, 2, 3, 4⟩ from ⟨by decide, by decide, by decide, by decide⟩)
 | j + 1, h => Q4c (Qij (by omega)) (by simp; omega)
theorem Q1k (v : V) (l : List UInt8) (hv : Q1 v l) (hl : l.length <= 2097152) (m : Nat) (hm : l.length = 8 * m) (n : Nat) (T : List V) (hT : T.length = 47) (h3 : T.getD 3 .bad = .ptr 0 3 0) (hr : Qx (fun f _ => Nat.ble 1 f) T = false) :
 CW Tryz.prog Qz 343 [.yield 0 1000006, .iptr [v] 0, .iptr [.int .i64 8] 0] [[(2, .cells zW), (3, .cells (wc ⟨1, 2, 3, 4⟩)), (11, .grow n), (1000006, .loop 0 none 195 6 T)]] fun r H' => r = .ret (.tuple []) /\ H' = [[(2, .cells zW), (3, .cells (wc (Qc6 l m))), (11, .grow n), (1000006, .loop 0 none 195 6 T)]] :=
 Q4v v l hv (by omega) 8 (by omega) (by omega) m hm 0 1000006 (fun j => [[(2, .cells zW), (3, .cells (wc (Qc6 l j))), (11, .grow n), (1000006, .loop 0 none 195 6 T)]]) (fun _ => rfl) (Qyl _ n T hr (.inr rfl))
  (fun j hj w hw => Qx0 (Qc6 l j) (Qij (by omega)) n T hT h3 hr w _ hw (by simp; omega))
def Kb (n : Nat) : Nat := (8 - (n + 1) % 8) % 8
noncomputable def Qfc (l : List UInt8) : W4 :=
 let y := Qc6 (Qaa l (Kb l.length)) ((l.length + 1 + Kb l.length) / 8)
 Kw 8 ⟨y.a, Nat.xor y.b l.length, y.c, y.d⟩
theorem Qyf (v : V) (l : List UInt8) (hv : Q1 v l) (hl : l.length <= 1048576) : Fz Tryz.prog Qz 195 [v] fun r => r = .agg (wc (Qfc l)) := by
 refine Jt Tryz.func195 rfl ?_
 obtain ⟨v1, hv1, hm1⟩ := (scl_fz v l hv hl).op (by rfl) (Qt (hv.frz _) rfl)
 have hm1' : ∀ s H, _ := fun s H => hm1 195 0 s H rfl
 obtain ⟨v2, ⟨hv2, hc2⟩, hm2⟩ := (Q7i v1 l hv1 hl).op (by rfl) (Qt (hv1.frz _) rfl)
 have hm2' : ∀ s H, _ := fun s H => hm2 195 0 s H rfl
 have ez : ([.int .u32 0, .int .u32 0, .int .u32 0, .int .u32 0] : List V) = zW := rfl
 have ew : ([.int .u32 1, .int .u32 2, .int .u32 3, .int .u32 4] : List V) = wc ⟨1, 2, 3, 4⟩ := rfl
 have dz : zW.drop 4 = [] := rfl
 have bv : Xt Tryz.prog 249 [(0, .int .u32 1), (1, .int .u32 2), (2, .int .u32 3), (3, .int .u32 4)] = some (.agg (wc ⟨1, 2, 3, 4⟩)) := by kernel_rfl
 have mt : ∀ s, Qz.mt 195 s = false := fun s => rfl
 have sc1 : ∀ g, Qy g 1 (.iS [.int .u8 1] 1 true) = some ([.int .u8 1], 1) := fun g => rfl
 have pe : Qj l ++ [.int .u8 1] = Qj (Qaa l 0) := by simp [Qaa, Qj]
 have ap : Zl Tryz.prog (Qz.mt 195) 0 (Qb [[(2, .cells zW), (3, .cells (wc ⟨1, 2, 3, 4⟩))]]) (some 11) 26 26 v2 (.iS [.int .u8 1] 1 true) = some (.val (.gS 0 11 (Qj (Qaa l 0)) (l.length + 1) 1) (some (0, 11, .grow (l.length + 1)))) := by
  have len2 := hv2
  rcases hc2 with rfl | ⟨c, n, rfl⟩
  . have h0 : l = [] := by
     obtain ⟨hlen, ⟨_, h⟩ | ⟨f, h⟩⟩ := hv2
     . exact Zl4 h
     . cases h
    subst h0
    rw [Qgh Tryz.underlying26 sz5 Qsn zc5 rfl Tryz.underlying26 (sc1 _) (by omega) (by decide), Qbs (mt _) rfl rfl]
    rfl
  . obtain ⟨hlen, ⟨h, _⟩ | ⟨f, h⟩⟩ := hv2
    . cases h
    . cases h
      rw [Qtw Tryz.underlying26 sz5 Qsn zc5 rfl Tryz.underlying26 (sc1 _) (by omega) hlen (Qa0 (by omega) (by omega)), Qbs (mt _) rfl rfl, pe]
 simp only [Qn, Qf, Qg, Ql, Qa, Qc, nov, gd, rho, Qe, wr, simprocAttr, Qi, ↓Qh, Tryz.ntmps195, ta, new, Qb, hset, Qu, Qs, Qp, splice, zerosN, Qo, Qq, Qk, V.pure, Qr, hm1', hm2', ez, ew, mt, Yg, ap, sc_w, ln_w, Tryz.underlying26, bv, ln_z, dz]
 refine W.ul ?_
 refine W.loopS (kt := [0, 2, 3, 4]) rfl (fun k : Nat => Qyr v (.ptr 0 2 0) (.ptr 0 3 0) (.gS 0 11 (Qj (Qaa l k)) (l.length + 1 + k) 1)) (fun k => [[(2, .cells zW), (3, .cells (wc ⟨1, 2, 3, 4⟩)), (11, .grow (l.length + 1 + k))]]) (fun k => k <= Kb l.length) (fun k => Kb l.length - k) ?_ 0 (Nat.zero_le _) rfl rfl
 intro k hk
 have pn : Kb l.length < 8 := Nat.mod_lt _ (by decide)
 simp only [Qyr]
 have lg : ∀ g, Y5 Tryz.prog g 26 (.gS 0 11 (Qj (Qaa l k)) (l.length + 1 + k) 1) = some (.int .i64 ((l.length + 1 + k : Nat) : Int)) := len_g Tryz.underlying26
 have rm : ∀ a b, Zz Tryz.prog .rem 3 a b (.int .i64 ((l.length + 1 + k : Nat) : Int)) (.int .i64 8) = some (.int .i64 (((l.length + 1 + k) % 8 : Nat) : Int)) := fun a b => by
  have e : ((l.length + 1 + k : Nat) : Int).tmod 8 = (((l.length + 1 + k) % 8 : Nat) : Int) := by
   rw [Int.tmod_eq_emod_of_nonneg (by omega)]; omega
  rw [<- e]; rfl
 by_cases h : k < Kb l.length
 . have c1 : ((((l.length + 1 + k) % 8 : Nat) : Int) != 0) = true := by
    have : (l.length + 1 + k) % 8 ≠ 0 := by unfold Kb at h pn; omega
    simp only [bne_iff_ne, ne_eq]; omega
   generalize hN : (l.length + 1 + k : Nat) = N at *
   have pk : Qj (Qaa l k) ++ [.int .u8 0] = Qj (Qaa l (k + 1)) := by rw [<- Q1p, B3]; rfl
   have ap2 : Zl Tryz.prog (Qz.mt 195) 0 (Qb [[(2, .cells zW), (3, .cells (wc ⟨1, 2, 3, 4⟩)), (11, .grow N)]]) (some 18) 26 26 (.gS 0 11 (Qj (Qaa l k)) N 1) (.iS [.int .u8 0] 1 true) = some (.val (.gS 0 11 (Qj (Qaa l (k + 1))) (N + 1) 1) (some (0, 11, .grow (N + 1)))) := by
    rw [Qfw Tryz.underlying26 sz5 Qsn zc5 rfl Tryz.underlying26 (cs := [.int .u8 0]) (m := 1) rfl (by omega) (Qa0 (by omega) (by omega)) rfl rfl rfl, pk]
   simp only [Qn, Qf, Qg, Ql, Qa, Qc, nov, gd, rho, Qe, wr, simprocAttr, Qi, ↓Qh, ta, new, Qb, hset, Qu, Qs, Qp, splice, zerosN, Qo, Qq, Qk, V.pure, Qr, mt, Yg, lg, rm, c1, Tryz.underlying26, ap2]
   have eN : N + 1 = l.length + 1 + (k + 1) := by omega
   refine W.done ⟨k + 1, ?_, ?_, by omega, by omega⟩
   . rw [<- eN]; rfl
   . rw [<- eN]
 . have hk' : k = Kb l.length := by omega
   subst hk'
   have c1 : ((((l.length + 1 + Kb l.length) % 8 : Nat) : Int) != 0) = false := by
    have : (l.length + 1 + Kb l.length) % 8 = 0 := by unfold Kb; omega
    rw [this]; rfl
   have hv3 : Q1 (.iS (Qj (Qaa l (Kb l.length))) (l.length + 1 + Kb l.length) false) (Qaa l (Kb l.length)) := by
    have := Q1.mk (Qaa l (Kb l.length)) false
    rwa [Qcb] at this
   have m8 : l.length + 1 + Kb l.length = 8 * ((l.length + 1 + Kb l.length) / 8) := by unfold Kb; omega
   have pl := Qcb l (Kb l.length)
   obtain ⟨m3, rfl, hm3⟩ := (Q2a _ _ hv3 8 (by omega)).op' (args := [.gS 0 11 (Qj (Qaa l (Kb l.length))) (l.length + 1 + Kb l.length) 1, .int .i64 8]) (by rfl) (Qt (Qwv _ _) rfl)
   have hm3' : ∀ s H, _ := fun s H => hm3 195 0 s H rfl
   have fe : Qfc l = Kw 8 ⟨(Qc6 (Qaa l (Kb l.length)) ((l.length + 1 + Kb l.length) / 8)).a, Nat.xor (Qc6 (Qaa l (Kb l.length)) ((l.length + 1 + Kb l.length) / 8)).b l.length, (Qc6 (Qaa l (Kb l.length)) ((l.length + 1 + Kb l.length) / 8)).c, (Qc6 (Qaa l (Kb l.length)) ((l.length + 1 + Kb l.length) / 8)).d⟩ := rfl
   rw [fe]
   generalize hN : (l.length + 1 + Kb l.length : Nat) = N at *
   generalize Qaa l (Kb l.length) = L at *
   have ok := Qij (l := L) (j := N / 8) (by omega)
   have lp := fun T => Q1k _ L hv3 (by omega) (N / 8) (by omega) N T
   generalize Qc6 L (N / 8) = y at *
   simp only [Qn, Qf, Qg, Ql, Qa, Qc, nov, gd, rho, Qe, wr, simprocAttr, Qi, ↓Qh, ta, new, Qb, hset, Qu, Qs, Qp, splice, zerosN, Qo, Qq, Qk, V.pure, Qr, mt, Yg, lg, rm, c1, Tryz.underlying26]
   refine W.done ?_
   simp only [Qn, Qf, Qg, Ql, Qa, Qc, nov, gd, rho, Qe, wr, simprocAttr, Qi, ↓Qh, ta, new, Qb, hset, Qu, Qs, Qp, splice, zerosN, Qo, Qq, Qk, V.pure, Qr, mt, Yg, lg, rm, c1, Tryz.underlying26, hm3']
   refine W.rfunc (rid := 6) rfl rfl rfl ?_
   refine (lp _ rfl rfl ?_).mono ?_
   . simp only [Qx, V.refs, hv.noRefs, Qfi]; rfl
   rintro r H2 ⟨rfl, rfl⟩
   refine ⟨_, rfl, ?_⟩
   rw [Qmk (st := 0) (f := 195) (r := 6) rfl (by decide) (by simp only [Qx, V.refs, hv.noRefs, Qfi]; rfl) rfl]
   have hH : ∀ T, List.modify [[(2, O.cells zW), (3, .cells (wc y)), (11, .grow N), (1000006, .loop 0 none 195 6 T)]] 0 (J8 fun x => [Zc 6].contains x) = [[(2, .cells zW), (3, .cells (wc y)), (11, .grow N)]] := fun T => rfl
   rw [hH]
   obtain ⟨c, d, e, f⟩ := y
   obtain ⟨yc, yd, ye, yf⟩ := ok
   have len := hv.len Tryz.underlying26
   have cv : ∀ g, convertV Tryz.prog g 3 27 (.int .i64 l.length) = some (.val (.int .u32 l.length) none) := fun g => by
    simp only [convertV, Tryz.underlying3, Tryz.underlying27]
    have : (IntKind.u32).wrap (l.length : Int) = l.length := by rw [IntKind.wrap_u32]; omega
    simp only [this]
   have ll : l.length < 4294967296 := by omega
   have b1 : ∀ a b, Zz Tryz.prog .xor 27 a b (.int .u32 d) (.int .u32 l.length) = _ := fun a b => xorU d _ yd ll
   have x1 := Qcx yd ll
   simp only at x1 yc ye yf ⊢
   generalize (Nat.xor d l.length : Nat) = x at *
   obtain ⟨m4, rfl, hm4⟩ := (Quq 8 (by omega) ⟨c, x, e, f⟩ ⟨yc, x1, ye, yf⟩).op (by rfl) rfl
   have hm4' : ∀ s H, AM.callOp Qz (Q5 Tryz.prog Qz) 195 0 s 307 [.agg [.int .u32 c, .int .u32 x, .int .u32 e, .int .u32 f], .int .i64 8] H = _ := fun s H => hm4 195 0 s H rfl
   have sz4 : ∀ w : W4, splice zW 0 (wc w) = wc w := fun w => rfl
   generalize Kw 8 ⟨c, x, e, f⟩ = z at *
   have wz : wc ⟨c, d, e, f⟩ = [.int .u32 c, .int .u32 d, .int .u32 e, .int .u32 f] := rfl
   rw [wz]
   simp only [Qn, Qf, Qg, Ql, Qa, Qc, nov, gd, rho, Qe, wr, simprocAttr, Qi, ↓Qh, ta, new, Qb, hset, Qu, Qs, Qp, splice, zerosN, Qo, Qq, Qk, V.pure, Qr, ia0, ia1, ia2, ia3, len, cv, b1, hm4', sc_w, ln_w, rd_w, sp_w, sp_z, ln_z, tk_w, dz]
   exact W.done (Zu.ret (v := .agg (wc z)) rfl rfl rfl)
end
section
set_option maxRecDepth 100000
open Go.AM Go.AM.BM
attribute [local irreducible] U W
def Y9 (m : Int) (l : List UInt8) : Int := l.foldl (fun m b => if (b.toNat : Int) > m then b.toNat else m) m
theorem Q5j (v : V) (b : UInt8) (l : List UInt8) (hv : Q1 v (b :: l)) (hl : l.length + 1 <= 281474976710656) :
 CW Tryz.prog Qz 161 [v] [] fun x _ => x = .ret (.int .u8 (Y9 b.toNat l)) := by
 refine Xr Tryz.func161 rfl ?_
 have len := hv.len Tryz.underlying26
 have at0 := hv.at (k := .i64) Tryz.underlying26 sz5 (by decide) (i := 0) (by omega) (by simp)
 have get0 : (Qj (b :: l))[(0 : Int).toNat * 1]? = some (.int .u8 b.toNat) := rfl
 have get0' : (Qj (b :: l))[(0 : Int).toNat]? = some (.int .u8 b.toNat) := rfl
 have lt1 : decide (((b :: l).length : Int) < 1) = false := Zmp (by simp; omega)
 have hL2 : (b :: l).length = l.length + 1 := rfl
 generalize hL : b :: l = L at *
 simp only [Qn, Qf, Qg, Ql, Qa, Qc, nov, gd, rho, Qe, wr, Nat.reduceAdd, Nat.reduceSub, if_true, if_false, reduceIte, reduceCtorEq, Qi, Int.reduceBEq, Int.reduceBNe, Int.reduceLT, Int.reduceLE, ↓Qh, Tryz.ntmps161, ta, new, Qb, hset, Qu, Qs, Qp, Nat.reduceLT, Nat.reduceEqDiff, splice, zerosN, Qo, Qq, Qk, V.pure, Nat.reduceMul, Nat.reduceLeDiff, Qr, len, at0, lt1, rd5, get0, get0']
 refine W.ul ?_
 refine W.loopS (kt := [0, 3, 4]) rfl (fun a : Int × Nat => Qsm v (.int .u8 a.1) (.int .i64 a.2)) (fun _ => [[]]) (fun a => a.2 <= L.length /\ Y9 a.1 (L.drop a.2) = Y9 b.toNat l) (fun a => L.length - a.2) ?_ (b.toNat, 1) ⟨by subst hL; simp, by subst hL; simp⟩ rfl rfl
 rintro ⟨m, i⟩ ⟨hi, hm⟩
 simp only at hi hm
 by_cases h : i < L.length
 . have c1 : decide ((i : Int) < L.length) = true := by simp; omega
   have at1 := hv.at (k := .i64) Tryz.underlying26 sz5 (by decide) (i := (i : Int)) (by omega) (by omega)
   have get1 : (Qj L)[(i : Int).toNat * 1]? = some (.int .u8 L[i].toNat) := by simp [Qat, h]
   have get1' : (Qj L)[(i : Int).toNat]? = some (.int .u8 L[i].toNat) := by simp [Qat, h]
   have w1 : (IntKind.i64).wrap ((i : Int) + 1) = ((i + 1 : Nat) : Int) := by rw [wrap_i64] <;> omega
   simp only [Qsm]
   simp only [Qn, Qf, Qg, Ql, Qa, Qc, nov, gd, rho, Qe, wr, Nat.reduceAdd, Nat.reduceSub, if_true, if_false, reduceIte, reduceCtorEq, Qi, Int.reduceBEq, Int.reduceBNe, Int.reduceLT, Int.reduceLE, ↓Qh, ta, new, Qb, hset, Qu, Qs, Qp, Nat.reduceLT, Nat.reduceEqDiff, splice, zerosN, Qo, Qq, Qk, V.pure, Nat.reduceMul, Nat.reduceLeDiff, Qr, len, c1, at1, rd5, get1, get1', w1]
   refine W.done ⟨(_, i + 1), rfl, rfl, ⟨by simp only; omega, ?_⟩, by simp only; omega⟩
   rw [<- hm, Zmf h]
   rfl
 . have c1 : decide ((i : Int) < L.length) = false := by simp; omega
   simp only [Qsm]
   simp only [Qn, Qf, Qg, Ql, Qa, Qc, nov, gd, rho, Qe, wr, Nat.reduceAdd, Nat.reduceSub, if_true, if_false, reduceIte, reduceCtorEq, Qi, Int.reduceBEq, Int.reduceBNe, Int.reduceLT, Int.reduceLE, ↓Qh, len, c1]
   refine W.done ?_
   have : m = Y9 b.toNat l := by rw [<- hm, Zlx (by omega)]; rfl
   subst this
   simp only [Qn, Qf, Qg, Ql, Qa, Qc, nov, gd, rho, Qe, wr, Nat.reduceAdd, Nat.reduceSub, if_true, if_false, reduceIte, reduceCtorEq, Qi, Int.reduceBEq, Int.reduceBNe, Int.reduceLT, Int.reduceLE, ↓Qh]
   exact W.done (End.ret (v := .int .u8 (Y9 b.toNat l)) rfl rfl)
theorem byteB {v : V} (h : Qlf v = true) : ∃ b : UInt8, v = .int .u8 b.toNat := by
 cases v with
 | int k a =>
   cases k <;> try (cases a <;> cases h)
   cases a with
   | ofNat n =>
     have : n < 256 := by
      simp only [Qlf, Nat.blt] at h
      have := Zlt h
      omega
     refine ⟨UInt8.ofNat n, ?_⟩
     have e : (UInt8.ofNat n).toNat = n := by simp; omega
     rw [e]; rfl
   | negSucc n => cases h
 | _ => cases h
theorem Qgc {x : V} {c : List V} (h : Qj0 x = some c) : ∃ l : List UInt8, c = Qj l /\ Q1 x l /\ l.length <= 1048576 := by
 have key : ∀ c : List V, c.all Qlf = true -> ∃ l : List UInt8, c = Qj l := by
  intro c
  induction c with
  | nil => intro _; exact ⟨[], rfl⟩
  | cons v c ih =>
    intro h
    simp only [List.all_cons, Zki] at h
    obtain ⟨b, rfl⟩ := byteB h.1
    obtain ⟨l, rfl⟩ := ih h.2
    exact ⟨b :: l, rfl⟩
 cases x with
 | nS => cases h; exact ⟨[], rfl, Zn.nil, by simp⟩
 | iS xs n f =>
   simp only [Qj0] at h
   split at h
   case isFalse => cases h
   rename_i hc
   cases h
   simp only [Zki] at hc
   obtain ⟨h1, h2, h3⟩ := hc
   obtain ⟨l, rfl⟩ := key _ h3
   have e1 := Zmb h1
   have e2 := Zlt h2
   have e3 : (Qj l).length = l.length := by simp [Qj]
   rw [e3] at e1
   subst e1
   exact ⟨l, rfl, Zn.mk (by rw [e3]; omega), e2⟩
 | _ => cases h
theorem Qjp : ∀ (l : List UInt8) (m : Nat), Int.ofNat (maxV (Qj l) m) = Y9 m l
 | [], m => rfl
 | b :: l, m => by
   have e : maxV (Qj (b :: l)) m = Bool.rec (motive := fun _ => Nat) (maxV (Qj l) m) (maxV (Qj l) b.toNat) (Nat.ble (Nat.succ m) b.toNat) := rfl
   have e2 : Y9 m (b :: l) = Y9 (if (b.toNat : Int) > m then b.toNat else m) l := rfl
   rw [e, e2]
   cases hb : Nat.ble (Nat.succ m) b.toNat with
   | true =>
     have := Zlt hb
     rw [if_pos (by omega)]; exact Qjp l _
   | false =>
     have : ¬ Nat.succ m <= b.toNat := fun h => by rw [Zma h] at hb; cases hb
     rw [if_neg (by omega)]; exact Qjp l _
theorem Q7s (ys : List V) (v : V) (h : kMax ys = some v) : FzN Tryz.prog Qz 161 ys v := by
 unfold kMax at h
 split at h
 case h_2 => cases h
 rename_i x
 split at h
 case h_2 => cases h
 rename_i v0 c hc
 cases h
 obtain ⟨l, e, hb, hl⟩ := Qgc hc
 cases l with
 | nil => cases e
 | cons b l =>
   cases e
   obtain ⟨r, H, e1, rfl⟩ := Q5j x b l hb (by simp only [Zj9] at hl; omega)
   have e3 := Qjp l b.toNat
   show FzN _ _ _ _ (.int .u8 (Int.ofNat (maxV (Qj l) b.toNat)))
   rw [e3]
   exact ⟨_, _, e1, rfl⟩
end
section
set_option maxRecDepth 100000
open Go.AM Go.AM.BM
attribute [local irreducible] U W
theorem sum_cw (v : V) (l : List UInt8) (hv : Q1 v l) (hl : l.length <= 1048576) : CW Tryz.prog Qz 267 [v] [] fun r _ => r = .ret (.int .u32 (Qfc l).a) := by
 refine Xr Tryz.func267 rfl ?_
 obtain ⟨m, rfl, hm⟩ := (Qyf v l hv hl).op (by rfl) (Qt (hv.frz _) rfl)
 have hm' : ∀ s H, _ := fun s H => hm 267 0 s H rfl
 have ix : Qdx Tryz.prog 249 (.agg (wc (Qfc l))) (.int .i64 0) = some (.int .u32 (Qfc l).a) := by
  simp only [Qdx, Tryz.underlying249, Qsd]; rfl
 generalize Qfc l = z at *
 simp only [Qn, Qf, Qg, Ql, Qa, Qc, nov, gd, rho, Qe, wr, simprocAttr, Qi, ↓Qh, Tryz.ntmps267, ta, new, Qb, hset, Qu, Qs, Qp, splice, zerosN, Qo, Qq, Qk, V.pure, Qr, hm', ix]
 exact W.done (End.ret (v := .int .u32 z.a) rfl rfl)
noncomputable def Qj6 : List UInt8 -> Nat -> W4 -> W4
 | _, 0, x => x
 | L, m + 1, x => Qj6 (L.drop 8) m (Qg0 x (L.take 8))
theorem Qnb : ∀ (j : Nat) (L : List UInt8) (x : W4), Qj6 L (j + 1) x = Qg0 (Qj6 L j x) ((L.drop (8 * j)).take 8)
 | 0, L, x => rfl
 | j + 1, L, x => by
   have := Qnb j (L.drop 8) (Qg0 x (L.take 8))
   rw [Qj6, this, Zkx, show 8 + 8 * j = 8 * (j + 1) by omega]
   rfl
theorem Qzk : ∀ (j : Nat) (L : List UInt8), Qc6 L j = Qj6 L j ⟨1, 2, 3, 4⟩
 | 0, L => rfl
 | j + 1, L => by rw [Qnb, Qc6, Qzk j L]
theorem Qp5 : ∀ (m n : Nat) (L : List UInt8) (x : W4), L.length = 8 * m -> m <= n -> Qig n (Qj L) x = Qj6 L m x
 | 0, n, L, x, h, _ => by
   have : L = [] := Zl4 h
   subst this; cases n <;> rfl
 | m + 1, n, L, x, h, hn => by
   obtain ⟨n, rfl⟩ : ∃ k, n = k + 1 := ⟨n - 1, by omega⟩
   match L, h with
   | a :: b :: c :: d :: e :: f :: g :: i :: r, h =>
     have ih := Qp5 m n r (Qg0 x [a, b, c, d, e, f, g, i]) (by simp only [Zj9] at h; omega) (by omega)
     have e1 : Qj6 (a :: b :: c :: d :: e :: f :: g :: i :: r) (m + 1) x = Qj6 r m (Qg0 x [a, b, c, d, e, f, g, i]) := rfl
     have e2 : Qig (n + 1) (Qj (a :: b :: c :: d :: e :: f :: g :: i :: r)) x = Qgu (Nat.xor x.a (Jx [a, b, c, d])) fun p => Qgu (Nat.xor x.c (Jx [e, f, g, i])) fun q => Qig n (Qj r) (Kw (nat_lit 4) ⟨p, x.b, q, x.d⟩) := rfl
     rw [e1, <- ih, e2, Qmc, Qmc]
     rfl
   | [], h => simp at h
   | [_], h => simp at h; omega
   | [_, _], h => simp at h; omega
   | [_, _, _], h => simp at h; omega
   | [_, _, _, _], h => simp at h; omega
   | [_, _, _, _, _], h => simp at h; omega
   | [_, _, _, _, _, _], h => simp at h; omega
   | [_, _, _, _, _, _, _], h => simp at h; omega
theorem Qyx (l : List UInt8) : Quc (Qj l) = Qfc l := by
 have hp : pad8 (Qj l) = Qj (Qaa l (Kb l.length)) := by
  simp [pad8, Qaa, Kb, Qj]
 have m8 : l.length + 1 + Kb l.length = 8 * ((l.length + 1 + Kb l.length) / 8) := by unfold Kb; omega
 have pn : Kb l.length < 8 := Nat.mod_lt _ (by decide)
 have h := Qp5 ((l.length + 1 + Kb l.length) / 8) (l.length + 1) (Qaa l (Kb l.length)) ⟨1, 2, 3, 4⟩ (by rw [Qcb]; exact m8) (by omega)
 have e : Quc (Qj l) = (match Qig ((Qj l).length + 1) (pad8 (Qj l)) ⟨1, 2, 3, 4⟩ with
  | x => Kw 8 ⟨x.a, Nat.xor x.b (Qj l).length, x.c, x.d⟩) := rfl
 rw [e, hp, Yn, h, <- Qzk]
 rfl
theorem Q6s (ys : List V) (v : V) (h : kSum ys = some v) : FzN Tryz.prog Qz 267 ys v := by
 unfold kSum at h
 split at h
 case h_2 => cases h
 rename_i x
 split at h
 case h_2 => cases h
 rename_i c hc
 cases h
 obtain ⟨l, rfl, hb, hl⟩ := Qgc hc
 obtain ⟨r, H, e1, rfl⟩ := sum_cw x l hb hl
 rw [Qyx]
 exact ⟨_, _, e1, rfl⟩
end
section
open Go.AM
theorem Q0i : ∀ c : Code, BM.drawsC c = drawsC c := by
 intro c
 induction c with
 | region id ops draw => rfl
 | seq a b iha ihb => simp only [BM.drawsC, drawsC, iha, ihb]
 | cond c a b iha ihb => simp only [BM.drawsC, drawsC, iha, ihb]
 | rangeFunc g ps a b iha ihb => simp only [BM.drawsC, drawsC, iha, ihb]
 | block i b ih => simp only [BM.drawsC, drawsC, ih]
 | loop b ih => simp only [BM.drawsC, drawsC, ih]
 | scope b ih => simp only [BM.drawsC, drawsC, ih]
 | _ => rfl
theorem Q20 : ∀ c : Code, BM.flatC c = flatC c := by
 intro c
 induction c with
 | seq a b iha ihb => simp only [BM.flatC, flatC, iha, ihb]
 | cond c a b iha ihb => simp only [BM.flatC, flatC, iha, ihb]
 | block i b ih => simp only [BM.flatC, flatC, ih]
 | loop b ih => simp only [BM.flatC, flatC, ih]
 | scope b ih => simp only [BM.flatC, flatC, ih]
 | _ => rfl
end
section
set_option maxRecDepth 100000
open Go.AM
attribute [local irreducible] U W
theorem by27 : byt Tryz.prog 26 = some 24 := by kernel_rfl
theorem by8 : byt Tryz.prog 5 = some 1 := by kernel_rfl
theorem by64 : byt Tryz.prog 3 = some 8 := by kernel_rfl
def Yr (k : Nat) (i : Nat) : List V := (List.range i).map fun j => .mS k 20 (256 * j) 256 (some 256) 1
theorem Qx8 (k i : Nat) : Yr k (i + 1) = Yr k i ++ [.mS k 20 (256 * i) 256 (some 256) 1] := by simp [Yr, Zmh]
theorem Qnm (k i : Nat) (p : Nat -> Nat -> Bool) (h : p k 20 = false) : Qx p (Yr k i) = false := by
 have : ∀ l : List Nat, Qx p (l.map fun j => V.mS k 20 (256 * j) 256 (some 256) 1) = false := by
  intro l
  induction l with
  | nil => rfl
  | cons j l ih => simp only [Zkd, Qx, V.refs, h, ih, Bool.or_self]
 exact this _
def Qnc (k i : Nat) : V := .mS k 20 (if i < 256 then 256 * i else 65280) (65536 - 256 * i) (some (65536 - 256 * i)) 1
theorem Qfs {K : Heap} (hw : WF K) {p : Nat -> Nat -> Bool} (hp : ∀ f s, p f s = true -> K.length <= f) : Zi p K = true := by
 refine Qff (fun f s h => ?_) K hw
 simp only [Nat.ble_eq]
 exact hp f s h
def Qrs (k i : Nat) : V := if i = 0 then .nS else .gS k 33 (Yr k i) i 1
def frM (Z : List V) (i : Nat) : AM.Frame := if i = 0 then [(20, .cells Z)] else [(20, .cells Z), (33, .grow i)]
def Qwo (Z : List V) (x : V) (i : Nat) : AM.Frame := if i = 0 then [(20, .cells Z)] else [(20, .cells Z), (32, .cells [x]), (33, .grow i)]
theorem Q6r (Z : List V) (x : V) (i : Nat) : J8 (fun s => [32].contains s) (Qwo Z x i) = frM Z i := by
 unfold frM Qwo; split <;> rfl
theorem cut_nn {P : Program} {u e : TypeId} (hu : P.underlying u = some (.slice e)) {q : Nat} (hs : sz P e = some q) {g : Get} {f s o len c n : Nat} {k : IntKind} (h : n <= c) :
 Z6 P g u (.mS f s o len (some c) q) none (some (.int k n)) (some (.int k n)) = some (.mS f s o n (some n) q) := by
 simp only [Z6, Bg, hu, hs, if_true, Qpm, Bx, Zl5, Zlr]
 rw [if_pos ⟨by omega, by omega, by omega, by omega, by omega, by omega, by simp⟩]
 simp
theorem Q7p (K : Heap) (Z : List V) (i : Nat) (hi : i < 256) (x : V) (hx : x.scalar = true) :
 Zl Tryz.prog (Qz.mt 166) K.length (Qb (K ++ [Qs (frM Z i) 32 (.cells [x])])) (some 33) 22 22 (Qrs K.length i) (.mS K.length 32 0 1 (some 1) 1) =
  some (.val (if i = 0 then .gS K.length 33 [x] 1 1 else .gS K.length 33 (Yr K.length i ++ [x]) (i + 1) 1) (some (K.length, 33, .grow (i + 1)))) := by
 have g32 : Qb (K ++ [Qs (frM Z i) 32 (.cells [x])]) K.length 32 = some (.cells [x]) := by
  rw [Jq]
  show Qu (Qs (frM Z i) 32 _) 32 = _
  rw [Qbn]; rfl
 have g33 : Qb (K ++ [Qs (frM Z i) 32 (.cells [x])]) K.length 33 = if i = 0 then none else some (.grow i) := by
  rw [Jq]
  show Qu (Qs (frM Z i) 32 _) 33 = _
  rw [Qbn, if_neg (by decide)]
  unfold frM; by_cases h : i = 0
  . simp only [h, if_true]; rfl
  . simp only [h, if_false]; rfl
 have sc : Qy (Qb (K ++ [Qs (frM Z i) 32 (.cells [x])])) 1 (.mS K.length 32 0 1 (some 1) 1) = some ([x], 1) := by
  simp only [Qy, g32]; rfl
 have hsc : ([x] : List V).all V.scalar = true := by simp [hx]
 unfold Qrs
 by_cases h : i = 0
 . subst h
   simp only [if_true] at g33 ⊢
   rw [Qgh Tryz.underlying22 Qje by27 zc26 rfl Tryz.underlying22 sc (by decide) (by decide)]
   simp [grown, Qz, new, g33]
 . simp only [h, if_false] at g33 ⊢
   have hr : Yw (i + 1) 24 = true := Qa0 (by omega) (by omega)
   simp only [Zl, Tryz.underlying22, Qje, by27, zc26, Kc, sc, appendTo, hr, hsc, g33, Zj9, Zlg, if_true, and_self]
theorem Qkw (p : Nat -> Nat -> Bool) (z : List V) (n : Nat) (h : Qx p z = false) : Qx p (zerosN z n) = false := by
 induction n with
 | zero => rfl
 | succ n ih =>
   have app : ∀ a b : List V, Qx p a = false -> Qx p b = false -> Qx p (a ++ b) = false := by
    intro a b ha hb
    induction a with
    | nil => exact hb
    | cons x a iha => simp only [Qx, Zle, Zl3] at ha ⊢; exact ⟨ha.1, iha ha.2⟩
   exact app _ _ h ih
theorem Q2m (K : Heap) (hw : WF K) (v : V) (L : List Int) (hl : L.length = 256) (hL : ∀ i, i < 256 -> L[i]? = some 256) (hv : Bk v L) :
 CW Tryz.prog Qz 166 [v] K fun r K' => r = .ret (.gS K.length 33 (Yr K.length 256) 256 1) /\ K' = K ++ [[(20, .cells (zerosN [.int .u8 0] 65536)), (33, .grow 256)]] := by
 refine Xr Tryz.func166 rfl ?_
 have len := hv.len Tryz.underlying32
 rw [hl] at len
 have at0 : ∀ i : Nat, i < 256 -> Q9 Tryz.prog 32 v (.int .i64 i) = some (.iptr (Q3 L) ((i : Int).toNat * 1)) := fun i h => by
  exact hv.at Tryz.underlying32 sz3 (by decide) (by omega) (by rw [hl]; omega)
 have get0 : ∀ i : Nat, i < 256 -> (Q3 L)[(i : Int).toNat * 1]? = some (.int .i64 256) := fun i h => by
  rw [Qv5]; simp [hL i h]
 simp only [Qn, Qf, Qg, Ql, Qa, Qc, nov, gd, rho, Qe, wr, Nat.reduceAdd, Nat.reduceSub, if_true, if_false, reduceIte, reduceCtorEq, Tryz.ntmps166, len]
 refine W.ul ?_
 refine W.loopS (kt := [0, 2, 3, 9, 10, 11]) rfl (fun i : Nat => Qyg v .nS (.int .i64 ((256 * i : Nat) : Int)) v (.int .i64 ((256 : Nat) : Int)) (.int .i64 i)) (fun _ => K ++ [[]]) (fun i => i <= 256) (fun i => 256 - i) ?_ 0 (by omega) rfl rfl
 rintro i hi
 simp only [Qyg]
 by_cases h : i < 256
 . have c1 : decide ((i : Int) < ((256 : Nat) : Int)) = true := Zmo (by omega)
   have w1 := Bw (i := i) (by omega)
   have w2 : (IntKind.i64).wrap (((256 * i : Nat) : Int) + 256) = ((256 * (i + 1) : Nat) : Int) := by rw [wrap_i64] <;> omega
   simp only [Qn, Qf, Qg, Ql, Qa, Qc, nov, gd, rho, Qe, wr, Nat.reduceAdd, Nat.reduceSub, if_true, if_false, reduceIte, reduceCtorEq, c1, at0 i h, rd3, get0 i h, w1, w2]
   exact W.done ⟨i + 1, rfl, rfl, by omega, by omega⟩
 . have c1 : decide ((i : Int) < ((256 : Nat) : Int)) = false := Zmp (by omega)
   have hi2 : i = 256 := by omega
   subst hi2
   simp only [Qn, Qf, Qg, Ql, Qa, Qc, nov, gd, rho, Qe, wr, Nat.reduceAdd, Nat.reduceSub, if_true, if_false, reduceIte, reduceCtorEq, c1]
   refine W.done ?_
   have e1 : ((256 * 256 : Nat) : Int) = 65536 := rfl
   have rm : Yw 65536 1 = true := by decide
   generalize hZ : zerosN [V.int .u8 0] 65536 = Z
   have hZ' : zerosN [V.int .u8 0] (65536 : Int).toNat = Z := hZ
   simp only [Qn, Qf, Qg, Ql, Qa, Qc, nov, gd, rho, Qe, wr, Nat.reduceAdd, Nat.reduceSub, if_true, if_false, reduceIte, reduceCtorEq, e1, Tryz.underlying26, sz5, by8, zc5, Int.reduceLE, Int.reduceToNat, rm, and_self, new, Qm9, Qu, Qs, Nat.reduceLT, Nat.reduceEqDiff, len, hZ, hZ']
   refine W.ul ?_
   have hk32 : ∀ i, (Qrs K.length i).refs (fun f s => f == K.length && [32].contains s) = false := by
    intro i
    unfold Qrs
    split
    . rfl
    . have := Qnm K.length i (fun f s => f == K.length && [32].contains s) (by simp)
      simp only [V.refs, this]; simp
   refine W.loop (fun (i : Nat) t H => ∃ x : V, Bu [2, 6, 21, 22, 23] t 0 = Qso (Qrs K.length i) (Qnc K.length i) v (.int .i64 ((256 : Nat) : Int)) (.int .i64 i) /\ i <= 256 /\ H = K ++ [Qwo Z x i] /\ x.refs (fun f s => f == K.length && [32].contains s) = false)
    (fun i => 256 - i) ?_ 0 ⟨.bad, rfl, by omega, rfl, rfl⟩ rfl
   rintro i t H ⟨x, ht, hi, rfl, hx⟩
   have vr : v.refs (fun f s => f == K.length && [32].contains s) = false := hv.noRefs _
   have zr : Qx (fun f s => f == K.length && [32].contains s) Z = false := by rw [<- hZ]; exact Qkw _ _ _ rfl
   have hd : (K ++ [Qwo Z x i]).modify K.length (J8 fun s => [32].contains s) = K ++ [frM Z i] := by
    have := Qbx (J8 fun s => [32].contains s) K [Qwo Z x i] 0
    rw [Zl0] at this
    rw [this, <- Q6r Z x i]; rfl
   refine ⟨_, _, Ye (kt := [2, 6, 21, 22, 23]) (ds := [32]) rfl ?_ ?_, ?_⟩
   . rw [ht]
     simp only [Qso, Qx, V.refs, hk32 i, vr, Qnc]; simp
   . rw [hd, Xy, Qfs hw (fun f s h => by simp at h; omega)]
     unfold frM
     split <;> simp only [Zi, Zo, O.refs, zr] <;> rfl
   rw [ht, hd]
   simp only [Qso]
   by_cases h : i < 256
   . have c1 : decide ((i : Int) < ((256 : Nat) : Int)) = true := Zmo (by omega)
     have w1 := Bw (i := i) (by omega)
     have rs : Qnc K.length i = .mS K.length 20 (256 * i) (65536 - 256 * i) (some (65536 - 256 * i)) 1 := by simp only [Qnc, h, if_true]
     have rs2 : V.mS K.length 20 (if 65536 - 256 * i = 256 then 256 * i else 256 * i + 256 * 1) (65536 - 256 * i - 256) (some (65536 - 256 * i - 256)) 1 = Qnc K.length (i + 1) := by
      unfold Qnc
      have e1 : 65536 - 256 * i - 256 = 65536 - 256 * (i + 1) := by omega
      rw [e1]
      congr 1
      by_cases h2 : i = 255
      . subst h2; rfl
      . rw [if_neg (by omega), if_pos (by omega)]; omega
     have sl1 : ∀ g, Z6 Tryz.prog g 26 (.mS K.length 20 (256 * i) (65536 - 256 * i) (some (65536 - 256 * i)) 1) none (some (.int .i64 256)) (some (.int .i64 256)) = some (.mS K.length 20 (256 * i) 256 (some 256) 1) :=
      fun g => cut_nn (n := 256) Tryz.underlying26 sz5 (by omega)
     have sl2 : ∀ g, Z6 Tryz.prog g 26 (.mS K.length 20 (256 * i) (65536 - 256 * i) (some (65536 - 256 * i)) 1) (some (.int .i64 256)) none none = some (Qnc K.length (i + 1)) := fun g => by
      rw [<- rs2]; exact Qto (w := 256) Tryz.underlying26 sz5 (by omega) (by omega) g
     have n32 : Qb (K ++ [frM Z i]) K.length 32 = none := by
      rw [Jq]; show Qu (frM Z i) 32 = none; unfold frM; split <;> rfl
     have s32 : ∀ o, hset (K ++ [frM Z i]) K.length 32 o = K ++ [Qs (frM Z i) 32 o] := fun o => Kr _ _ _ _
     have s33 : ∀ y, hset (K ++ [Qs (frM Z i) 32 (.cells [y])]) K.length 33 (.grow (i + 1)) = K ++ [Qwo Z y (i + 1)] := fun y => by
      rw [Kr]; show K ++ [Qs (Qs (frM Z i) 32 _) 33 _] = _
      unfold frM Qwo; rw [if_neg (Zmi i)]; split <;> rfl
     have ap := Q7p K Z i h (.mS K.length 20 (256 * i) 256 (some 256) 1) rfl
     have eo : (if i = 0 then V.gS K.length 33 [.mS K.length 20 (256 * i) 256 (some 256) 1] 1 1 else .gS K.length 33 (Yr K.length i ++ [.mS K.length 20 (256 * i) 256 (some 256) 1]) (i + 1) 1) = Qrs K.length (i + 1) := by
      unfold Qrs
      rw [if_neg (Zmi i), Qx8]
      by_cases h0 : i = 0
      . subst h0; rfl
      . rw [if_neg h0]
     rw [eo] at ap
     have mt32 : Qz.mt 166 32 = true := rfl
     have get1 : (Q3 L)[(i : Int).toNat]? = some (.int .i64 256) := by have := get0 i h; rwa [Zkt] at this
     rw [rs]
     simp only [Qn, Qf, Qg, Ql, Qa, Qc, nov, gd, rho, Qe, wr, Nat.reduceAdd, Nat.reduceSub, if_true, if_false, reduceIte, reduceCtorEq, c1, at0 i h, rd3, get0 i h, get1, w1, sl1, sl2, Tryz.underlying22, Qje, zc26, mt32, new, n32, s32, Yg, ap, s33, splice, zerosN, Qo, Qq, Qk, V.pure, Nat.reduceMul, Nat.reduceLeDiff, Qr]
     exact W.done ⟨i + 1, ⟨_, rfl, by omega, rfl, by simp [V.refs]⟩, by omega⟩
   . have c1 : decide ((i : Int) < ((256 : Nat) : Int)) = false := Zmp (by omega)
     have hi2 : i = 256 := by omega
     subst hi2
     simp only [Qn, Qf, Qg, Ql, Qa, Qc, nov, gd, rho, Qe, wr, Nat.reduceAdd, Nat.reduceSub, if_true, if_false, reduceIte, reduceCtorEq, c1]
     refine W.done ?_
     simp only [Qn, Qf, Qg, Ql, Qa, Qc, nov, gd, rho, Qe, wr, Nat.reduceAdd, Nat.reduceSub, if_true, if_false, reduceIte, reduceCtorEq]
     refine W.done (End.ret (v := Qrs K.length 256) rfl ?_)
     rw [Qak (by simp [Qrs, V.refs])]
     exact ⟨rfl, rfl⟩
end
section
set_option maxRecDepth 100000
open Go.AM
attribute [local irreducible] U W
def Qp6 : V -> Bool
 | .int _ _ => true
 | _ => false
def J4 (c : List V) : Prop := c.length = 256 /\ c.all Qp6 = true
theorem Qsb {x : V} (h : Qp6 x = true) : x.scalar = true := by cases x <;> first | rfl | cases h
theorem Qk0 {c : List V} (h : c.all Qp6 = true) : c.all V.scalar = true := by
 rw [Zkj] at h ⊢
 exact fun x hx => Qsb (h x hx)
theorem Qp0 (p : Nat -> Nat -> Bool) : ∀ {c : List V}, c.all Qp6 = true -> Qx p c = false
 | [], _ => rfl
 | x :: c, h => by
   simp only [List.all_cons, Zki] at h
   simp only [Qx, Qp0 p h.2, Bool.or_false]
   cases x <;> first | rfl | (cases h.1)
theorem Q3s (K : Heap) (c : List V) (fl : Bool) (hc : J4 c) :
 CW Tryz.prog Qz 73 [.iS c 256 fl] K fun r K' => r = .ret (.mS K.length 7 0 256 none 1) /\ K' = K ++ [[(5, .cells []), (7, .cells c)]] := by
 refine Xr Tryz.func73 rfl ?_
 have nn := Qge (P := Tryz.prog) (t := 26) Tryz.underlying26 (x := .tmp 3) (y := .const (.slice none 0 0)) (cs := c) (n := 256) (f := fl)
 have mt5 : Qz.mt 73 5 = true := rfl
 have mt7 : Qz.mt 73 7 = true := rfl
 have sc : ∀ g, Qy g 1 (.iS c 256 fl) = some (c, 256) := fun g => by simp [Qy, hc.1]
 have s5 : hset (K ++ [[]]) K.length 5 (.cells []) = K ++ [[(5, .cells [])]] := by rw [Kr]; rfl
 have n5 : Qb (K ++ [[]]) K.length 5 = none := by rw [Jq]; rfl
 have n7 : Qb (K ++ [[(5, O.cells [])]]) K.length 7 = none := by rw [Jq]; rfl
 have g5 : Qb (K ++ [[(5, O.cells [])]]) K.length 5 = some (.cells []) := by rw [Jq]; rfl
 have ap : Zl Tryz.prog (Qz.mt 73) K.length (Qb (K ++ [[(5, O.cells [])]])) (some 7) 26 26 (.mS K.length 5 0 0 (some 0) 1) (.iS c 256 fl) = some (.val (.mS K.length 7 0 256 none 1) (some (K.length, 7, .cells c))) := by
  simp only [Zl, Tryz.underlying26, sz5, by8, zc5, Kc, sc, appendTo, g5]
  simp [grown, mt7, new, n7, Qk0 hc.2, Yw]
 have s7 : hset (K ++ [[(5, O.cells [])]]) K.length 7 (.cells c) = K ++ [[(5, .cells []), (7, .cells c)]] := by rw [Kr]; rfl
 simp only [Qn, Qf, Qg, Ql, Qa, Qc, nov, gd, rho, Qe, wr, simprocAttr, Tryz.ntmps73, nn, mt5, new, n5, s5, Yg, ap, s7, Tryz.underlying26, sz5, zc5, splice, zerosN, Qo, Qq, Qk, V.pure, Qr]
 refine W.done (End.ret (v := .mS K.length 7 0 256 none 1) rfl ?_)
 rw [Qak (by simp [V.refs])]
 exact ⟨rfl, rfl⟩
theorem Ql9 (g : Get) (n : Nat) : ∀ {c : List V}, c.all Qp6 = true -> Zb (frz g (n + 1)) c = some c
 | [], _ => rfl
 | x :: c, h => by
   simp only [List.all_cons, Zki] at h
   have hx : frz g (n + 1) x = some x := by cases x <;> first | rfl | (cases h.1)
   simp only [Zb, hx, Ql9 g n h.2]
theorem Qi8 {g : Get} {f s o len esz m : Nat} {cap : Option Nat} {xs : List V} (hg : g f s = some (.cells xs)) (hl : o + len * esz <= xs.length) (hx : Zb (frz g (m + 1)) ((xs.drop o).take (len * esz)) = some ((xs.drop o).take (len * esz))) :
 frz g (m + 2) (.mS f s o len cap esz) = some (.iS ((xs.drop o).take (len * esz)) len (cap == some len)) := by
 have e : frz g (m + 2) (.mS f s o len cap esz) = (match g f s with
  | some (.cells xs) => if o + len * esz <= xs.length then (Zb (frz g (m + 1)) ((xs.drop o).take (len * esz))).map fun cs => .iS cs len (cap == some len) else none
  | _ => none) := rfl
 rw [e, hg]
 simp only [hl, if_true, hx, Zjs]
theorem Q5i (c : List V) (fl : Bool) (hc : J4 c) : Fz Tryz.prog Qz 73 [.iS c 256 fl] fun r => r = .iS c 256 false := by
 refine Fz.of_cw ((Q3s [] c fl hc).mono ?_)
 rintro r H' ⟨rfl, rfl⟩
 have e : (c.drop 0).take (256 * 1) = c := by
  rw [List.drop_zero, Zmg (Nat.le_of_eq hc.1)]
 have hf := Qi8 (g := Qb ([] ++ [[(5, O.cells []), (7, O.cells c)]])) (f := 0) (s := 7) (o := 0) (len := 256) (esz := 1) (cap := none) (xs := c) (m := 10) rfl (by rw [hc.1]; exact Zjw _) (by rw [e]; exact Ql9 _ _ hc.2)
 exact ⟨_, rfl, _, hf, by rw [e]; rfl⟩
structure Ql2 (K : Heap) (bv : V) (r : Nat -> List V) : Prop where
 len : ∀ g, Y5 Tryz.prog g 22 bv = some (.int .i64 256)
 ex : ∃ p q : Nat -> V, (∀ i : Nat, i < 256 -> Q9 Tryz.prog 22 bv (.int .i64 (i : Int)) = some (p i)) /\ (∀ i, i < 256 -> ∀ G, ldV Tryz.prog 26 (Qb (K ++ G)) (p i) = some (q i)) /\ ∀ i, i < 256 -> ∃ fl, q i = .iS (r i) 256 fl
 rows : ∀ i, i < 256 -> J4 (r i)
 refs : bv.refs (fun f _ => Nat.ble K.length f) = false
 cells : bv.cells = some [bv]
 sc : bv.scalar = true
end
end Go.Proofs.YtgnnlchhfiomgaaGreatDoor
