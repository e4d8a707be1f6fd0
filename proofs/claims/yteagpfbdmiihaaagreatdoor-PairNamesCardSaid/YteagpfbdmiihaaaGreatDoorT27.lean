/- This file holds in one the texts An31, An32, An33, An34, An37, An40, An41, An48, An52, An54, An36, An51; each says at its head what it proves. -/
import Derived.Test.YteagpfbdmiihaaaGreatDoorT13
import Derived.Test.YteagpfbdmiihaaaGreatDoorT22
set_option linter.unusedSimpArgs false
set_option linter.unusedVariables false
section
namespace Go.AM
/-! ### Regions that draw -/
def Qx8 (pol : Pol) (fn fr : Nat) (d : Option Nat) (ids : List (Nat × Nat)) (f : FuncId) : FP :=
 if (pol.prim f).isNone && pol.pure fn f then .quiet else if (pol.prim f).isNone && pol.lift fn f then (match d with
  | some d => .ids ids [(fr, d)]
  | none => .all) else .all
section
variable (P : Program) (pol : Pol) (C : Call) (L : Yx -> Kb) (fn fr : Nat)
def UCT (X : Option (Rt × Heap)) (d : Option Nat) (k : List It) (t : List V) : Out := match X with
 | some (.ret v, H) => U P pol C L fn fr k .normal (Qe t d v) H
 | _ => none
def UST (q far : Bool) (ids : List (Nat × Nat)) (X : Option Zk) (d : Option Nat) (a : Array Oper) (r : List Oper) (T : List FP) (k : List It) (t : List V) (H : Heap) : Out := match X with
 | some (.val v none) => U P pol C L fn fr (.opsT a r ((if q then .quiet else if far then .all else .ids ids []) :: T) :: k) .normal (Qe t d v) H
 | some (.val v (some (f, s, o))) => U P pol C L fn fr (.opsT a r ((if q then .quiet else if far then .all else .ids ids [(f, s)]) :: T) :: k) .normal (Qe t d v) (hset H f s o)
 | some (.round f s args) => UR P pol C L fn fr (C none (.yield f s :: args) H) d (.opsT a r ((if q then .quiet else .all) :: T) :: k) t
 | some (.call f args) => UCT P pol C L fn fr (callOp pol C fn fr d f args H) d (.opsT a r ((if q then .quiet else if far then .all else Qx8 pol fn fr d ids f) :: T) :: k) t
 | _ => none
def UGT (v : Option V) (want : Bool) (o : Oper) (d : Option Nat) (a : Array Oper) (r : List Oper) (T : List FP) (k : List It) (t : List V) (H : Heap) : Out := match v with
 | some (.bool b) => if b = want then U P pol C L fn fr (.opsT a (o :: r) T :: k) .normal t H else U P pol C L fn fr (.opsT a r (.quiet :: T) :: k) .normal (Qe t d nov) H
 | some (.tuple []) => U P pol C L fn fr (.opsT a r (.quiet :: T) :: k) .normal (Qe t d nov) H
 | _ => none
end
section
variable {P : Program} {pol : Pol} {C : Call} {L : Yx -> Kb} {fn fr : Nat} {r : List Oper} {t : List V} {H : Heap} {d : Option Nat} {ty u : TypeId} {ps : String} {af : Array Edge} {x y z : Operand} {k : List It} {v : V} {a : Array Oper} {T : List FP}
theorem Q8n : UCT P pol C L fn fr (some (.ret v, H)) d k t = U P pol C L fn fr k .normal (Qe t d v) H := rfl
theorem Q8l {q far : Bool} {ids : List (Nat × Nat)} : UST P pol C L fn fr q far ids (some (.val v none)) d a r T k t H = U P pol C L fn fr (.opsT a r ((if q then .quiet else if far then .all else .ids ids []) :: T) :: k) .normal (Qe t d v) H := rfl
theorem Q65 {q far : Bool} {ids : List (Nat × Nat)} {f s : Nat} {o : O} : UST P pol C L fn fr q far ids (some (.val v (some (f, s, o)))) d a r T k t H = U P pol C L fn fr (.opsT a r ((if q then .quiet else if far then .all else .ids ids [(f, s)]) :: T) :: k) .normal (Qe t d v) (hset H f s o) := rfl
theorem Q3d {q far : Bool} {ids : List (Nat × Nat)} {f : FuncId} {args : List V} : UST P pol C L fn fr q far ids (some (.call f args)) d a r T k t H =
 UCT P pol C L fn fr (callOp pol C fn fr d f args H) d (.opsT a r ((if q then .quiet else if far then .all else Qx8 pol fn fr d ids f) :: T) :: k) t := rfl
theorem ugt_tt {o : Oper} : UGT P pol C L fn fr (some (.bool true)) true o d a r T k t H = U P pol C L fn fr (.opsT a (o :: r) T :: k) .normal t H := rfl
theorem ugt_ff {o : Oper} : UGT P pol C L fn fr (some (.bool false)) false o d a r T k t H = U P pol C L fn fr (.opsT a (o :: r) T :: k) .normal t H := rfl
theorem ugt_tf {o : Oper} : UGT P pol C L fn fr (some (.bool true)) false o d a r T k t H = U P pol C L fn fr (.opsT a r (.quiet :: T) :: k) .normal (Qe t d nov) H := rfl
theorem ugt_ft {o : Oper} : UGT P pol C L fn fr (some (.bool false)) true o d a r T k t H = U P pol C L fn fr (.opsT a r (.quiet :: T) :: k) .normal (Qe t d nov) H := rfl
theorem ugt_no {want : Bool} {o : Oper} : UGT P pol C L fn fr (some (.tuple [])) want o d a r T k t H = U P pol C L fn fr (.opsT a r (.quiet :: T) :: k) .normal (Qe t d nov) H := rfl
theorem Qjp {o : Oper} (hw : Zu a t o = some true) : U P pol C L fn fr (.opsT a (o :: r) T :: k) .normal t H = match Ze P pol C fn fr t H o with
 | some (.normal, t1, H1) => U P pol C L fn fr (.opsT a r (Z8 P pol fn fr t H o :: T) :: k) .normal t1 H1
 | _ => none := by
 simp only [U, Q7, hw]
 cases Ze P pol C fn fr t H o with
 | none => rfl
 | some x =>
   obtain ⟨e, t1, H1⟩ := x
   cases e with
   | normal =>
     simp only
     cases Q7 P pol C fn fr a r t1 H1 with
     | none => rfl
     | some y =>
       obtain ⟨t2, H2, T2⟩ := y
       simp only [Zlc, List.reverse_cons, Znj, List.singleton_append]
   | _ => rfl
theorem w_opT {op : Op} : U P pol C L fn fr (.opsT a ({ dst := d, op := op, type := ty, pos := ps, after := af, guard := none } :: r) T :: k) .normal t H =
 UST P pol C L fn fr (Qa op) (Qd op) (Yz fr (rho t) { dst := d, op := op, type := ty, pos := ps, after := af, guard := none }) (Ql P (pol.mt fn) fr (Qb H) (rho t) { dst := d, op := op, type := ty, pos := ps, after := af, guard := none }) d a r T k t H := by
 rw [Qjp rfl]
 simp only [Ze, Z8]
 cases Ql P (pol.mt fn) fr (Qb H) (rho t) { dst := d, op := op, type := ty, pos := ps, after := af, guard := none } with
 | none => rfl
 | some s =>
   cases s with
   | val v w =>
     cases w with
     | none => simp only [UST, wr]
     | some w => obtain ⟨f, s, o⟩ := w; simp only [UST, wr]
   | panic v => rfl
   | call f args =>
     simp only [UST, UCT, Qx8]
     cases callOp pol C fn fr d f args H with
     | none => rfl
     | some q => obtain ⟨q, H'⟩ := q; cases q <;> rfl
   | round f s args =>
     simp only [UST, UR]
     cases C none (.yield f s :: args) H with
     | none => rfl
     | some q => obtain ⟨q, H'⟩ := q; cases q with
       | ret v =>
         simp only
         cases Qa op <;> cases Qd op <;> rfl
       | pan v => rfl
theorem Q41 {op : Op} {j : Nat} {want : Bool} : U P pol C L fn fr (.opsT a ({ dst := d, op := op, type := ty, pos := ps, after := af, guard := some (j, want) } :: r) T :: k) .normal t H =
 UGT P pol C L fn fr (gd a t j) want { dst := d, op := op, type := ty, pos := ps, after := af, guard := none } d a r T k t H := by
 have e : Zu a t { dst := d, op := op, type := ty, pos := ps, after := af, guard := some (j, want) } = match gd a t j with
  | some (.bool b) => some (b == want)
  | some (.tuple []) => some false
  | _ => none := rfl
 have hf : ∀ t, (match Q7 P pol C fn fr a r (Qe t d nov) H with
  | some (t', H', T) => some (t', H', FP.quiet :: T)
  | none => none).bind (fun x => if okT (Region.before a) (loud (T.reverse ++ x.2.2)) = true then U P pol C L fn fr k .normal x.1 x.2.1 else none) = U P pol C L fn fr (.opsT a r (.quiet :: T) :: k) .normal (Qe t d nov) H := by
  intro t
  simp only [U]
  cases Q7 P pol C fn fr a r (Qe t d nov) H with
  | none => rfl
  | some y => simp only [Zlc, List.reverse_cons, Znj, List.singleton_append]
 cases hg : gd a t j with
 | none => simp only [U, Q7, e, hg, UGT]; rfl
 | some v =>
   rw [hg] at e
   cases v with
   | bool b =>
     by_cases hb : b = want
     . subst hb
       have e' : Zu a t { dst := d, op := op, type := ty, pos := ps, after := af, guard := some (j, b) } = some true := by rw [e]; simp
       rw [Qjp e']
       simp only [UGT, if_true]
       rw [Qjp rfl]
       rfl
     . have e' : Zu a t { dst := d, op := op, type := ty, pos := ps, after := af, guard := some (j, want) } = some false := by rw [e]; simp [hb]
       simp only [UGT, hb, if_false]
       rw [<- hf t]
       simp only [U, Q7, e']
       rfl
   | tuple l =>
     cases l with
     | nil =>
       simp only [UGT]
       rw [<- hf t]
       simp only [U, Q7, e]
       rfl
     | cons x l => simp only [U, Q7, e, UGT]; rfl
   | _ => simp only [U, Q7, e, UGT]; rfl
theorem Qwt (h : okT (Region.before a) (loud T.reverse) = true) : U P pol C L fn fr (.opsT a [] T :: k) .normal t H = U P pol C L fn fr k .normal t H := by
 rw [Qxx, if_pos h]
end
theorem W.opsT {P : Program} {pol : Pol} {C : Call} {L : Yx -> Kb} {fn fr : Nat} {t : List V} {H : Heap} {a : Array Oper} {T : List FP} {k : List It} {Q : Ex -> List V -> Heap -> Prop}
 (h : okT (Region.before a) (loud T.reverse) = true) (h2 : W (U P pol C L fn fr k .normal t H) Q) : W (U P pol C L fn fr (.opsT a [] T :: k) .normal t H) Q := by
 rw [Qwt h]; exact h2
/-! ### Heaps behind others -/
theorem Qnj (H G : Heap) (i s : Nat) : Qb (H ++ G) (H.length + i) s = Qb G i s := by
 unfold Qb
 rw [Zl6 (by omega), Nat.add_sub_cancel_left]
theorem Jv (H G : Heap) (s : Nat) : Qb (H ++ G) H.length s = Qb G 0 s := Qnj H G 0 s
theorem Q2d (F : Frame) (G : Heap) (s : Nat) : Qb (F :: G) 0 s = Qu F s := rfl
theorem Q0i (F : Frame) (G : Heap) (i s : Nat) : Qb (F :: G) (i + 1) s = Qb G i s := rfl
theorem Qbz {α : Type} (f : α -> α) : ∀ (H G : List α) (i : Nat), (H ++ G).modify (H.length + i) f = H ++ G.modify i f
 | [], G, i => by simp
 | x :: H, G, i => by
   rw [Zmj, show (x :: H).length + i = (H.length + i) + 1 by simp; omega, List.modify_succ_cons, Qbz f H G i, Zmj]
theorem Qt8 (H G : Heap) (i s : Nat) (o : O) : hset (H ++ G) (H.length + i) s o = H ++ hset G i s o := by
 unfold hset
 exact Qbz _ H G i
theorem Kv (H G : Heap) (s : Nat) (o : O) : hset (H ++ G) H.length s o = H ++ hset G 0 s o := Qt8 H G 0 s o
theorem Qz0 (F : Frame) (G : Heap) (s : Nat) (o : O) : hset (F :: G) 0 s o = Qs F s o :: G := rfl
theorem Q14 (F : Frame) (G : Heap) (i s : Nat) (o : O) : hset (F :: G) (i + 1) s o = F :: hset G i s o := rfl
def WF (H : Heap) : Prop := Zh (fun f _ => Nat.ble H.length f) H = true
theorem WF.nil : WF [] := rfl
theorem Bg (p : Nat -> Nat -> Bool) : ∀ (H G : Heap), Zh p (H ++ G) = (Zh p H && Zh p G)
 | [], G => by simp [Zh]
 | F :: H, G => by simp [Zh, Bg p H G, Bool.and_assoc]
mutual
theorem Qam {p q : Nat -> Nat -> Bool} (h : ∀ a b, p a b = true -> q a b = true) : ∀ v : V, v.refs q = false -> v.refs p = false
 | .gS f s cs _ _, h2 => by
   simp only [V.refs, Zm9] at h2 ⊢
   refine ⟨?_, Xq h cs h2.2⟩
   cases hp : p f s with
   | false => rfl
   | true => rw [h _ _ hp] at h2; cases h2.1
 | .rptr cs _, h2 => by simp only [V.refs] at h2 ⊢; exact Xq h cs h2
 | .ptr f s _, h2 | .mS f s _ _ _ _, h2 | .map f s, h2 | .yield f s, h2 => by
   simp only [V.refs] at h2 ⊢
   cases hp : p f s with
   | false => rfl
   | true => rw [h _ _ hp] at h2; cases h2
 | .func _ a b, h2 => by simp only [V.refs, Zm9] at h2 ⊢; exact ⟨Xq h a h2.1, Xq h b h2.2⟩
 | .face _ v, h2 => by simp only [V.refs] at h2 ⊢; exact Qam h v h2
 | .agg xs, h2 | .tuple xs, h2 => by simp only [V.refs] at h2 ⊢; exact Xq h xs h2
 | .bad, _ | .bool _, _ | .int _ _, _ | .str _, _ | .nP, _ | .iptr _ _, _ | .nS, _ | .iS _ _ _, _ | .nM, _ | .nF, _ | .nI, _ | .byte, _ => rfl
theorem Xq {p q : Nat -> Nat -> Bool} (h : ∀ a b, p a b = true -> q a b = true) : ∀ l : List V, Qx q l = false -> Qx p l = false
 | [], _ => rfl
 | x :: xs, h2 => by simp only [Qx, Zm9] at h2 ⊢; exact ⟨Qam h x h2.1, Xq h xs h2.2⟩
end
theorem Qlr {p q : Nat -> Nat -> Bool} (h : ∀ a b, p a b = true -> q a b = true) : ∀ l : List (V × V), Qfp q l = false -> Qfp p l = false
 | [], _ => rfl
 | (a, b) :: xs, h2 => by simp only [Qfp, Zm9] at h2 ⊢; exact ⟨⟨Qam h a h2.1.1, Qam h b h2.1.2⟩, Qlr h xs h2.2⟩
theorem Qwi {p q : Nat -> Nat -> Bool} (h : ∀ a b, p a b = true -> q a b = true) (o : O) (h2 : o.refs q = false) : o.refs p = false := by
 cases o with
 | map es bs clk => exact Qlr h es h2
 | iter m since seen stepped =>
   cases m with
   | none => rfl
   | some x =>
     simp only [O.refs] at h2 ⊢
     cases hp : p x.1 x.2 with
     | false => rfl
     | true => rw [h _ _ hp] at h2; cases h2
 | cells xs => exact Xq h xs h2
 | loop st pend fn rid t => exact Xq h t h2
 | _ => rfl
theorem Qfl {p q : Nat -> Nat -> Bool} (h : ∀ a b, p a b = true -> q a b = true) : ∀ F : Frame, Zo q F = true -> Zo p F = true
 | [], _ => rfl
 | (s, o) :: r, h2 => by
   simp only [Zo, Zlm, Zmh] at h2 ⊢
   exact ⟨Qwi h o h2.1, Qfl h r h2.2⟩
theorem Qe8 {p q : Nat -> Nat -> Bool} (h : ∀ a b, p a b = true -> q a b = true) : ∀ H : Heap, Zh q H = true -> Zh p H = true
 | [], _ => rfl
 | F :: r, h2 => by
   simp only [Zh, Zlm] at h2 ⊢
   exact ⟨Qfl h F h2.1, Qe8 h r h2.2⟩
theorem Ql7 {n m : Nat} (h : n <= m) (a b : Nat) : (fun f (_ : Nat) => Nat.ble m f) a b = true -> (fun f (_ : Nat) => Nat.ble n f) a b = true := by
 simp only [Nat.ble_eq]; omega
theorem WF.app {H G : Heap} (h : WF H) (h2 : Zh (fun f _ => Nat.ble (H.length + G.length) f) G = true) : WF (H ++ G) := by
 unfold WF
 rw [Bg, Zl3, h2, Bool.and_true]
 exact Qe8 (Ql7 (by omega)) H h
theorem Qap {H G : Heap} {v : V} (hv : v.refs (fun f _ => Nat.ble H.length f) = false) (hw : WF H) : B2 H.length v (H ++ G) = H := by
 unfold B2
 have e : (H ++ G).take H.length = H := by simp
 rw [hv, e]
 unfold WF at hw
 rw [hw]
 rfl
theorem Qat {b : Nat} {H : Heap} {v : V} (hv : v.refs (fun f _ => Nat.ble b f) = true) : B2 b v H = H := by
 unfold B2
 rw [hv]
 rfl
/-! ### Appending -/
section
variable {P : Program} {t t2 e e2 : TypeId} {n by_ m : Nat} {z cs : List V} {x : V} {g : Get} {mt : Nat -> Bool} {fr : Nat} {dst : Option Nat} {d : Nat}
theorem Qgg (hu : P.underlying t = some (.slice e)) (hs : sz P e = some n) (hb : byt P e = some by_) (hz : zeroCells P e = some z) (hzl : z.length = n) (ht : P.underlying t2 = some (.slice e2))
 (hx : Qy g n x = some (cs, m)) (hm : 0 < m) (hr : Yw m by_ = true) : Zj P mt fr g dst t t2 .nS x = grown mt g fr dst cs cs m n := by
 obtain ⟨m, rfl⟩ : ∃ k, m = k + 1 := ⟨m - 1, by omega⟩
 simp only [Zj, hu, hs, hb, hz, hzl, if_true, Y8, ht, hx, appendTo, hr]
theorem Qu3 {c0 : List V} {k : Nat} (hu : P.underlying t = some (.slice e)) (hs : sz P e = some n) (hb : byt P e = some by_) (hz : zeroCells P e = some z) (hzl : z.length = n) (ht : P.underlying t2 = some (.slice e2))
 (hx : Qy g n x = some (cs, m)) (hm : 0 < m) (hc : c0.length = k * n) (hr : Yw (k + m) by_ = true) : Zj P mt fr g dst t t2 (.iS c0 k true) x = grown mt g fr dst (c0 ++ cs) cs (k + m) n := by
 obtain ⟨m, rfl⟩ : ∃ k, m = k + 1 := ⟨m - 1, by omega⟩
 simp only [Zj, hu, hs, hb, hz, hzl, if_true, Y8, ht, hx, appendTo, hr, hc, and_self]
theorem Qe5 {c0 : List V} {f s k : Nat} (hu : P.underlying t = some (.slice e)) (hs : sz P e = some n) (hb : byt P e = some by_) (hz : zeroCells P e = some z) (hzl : z.length = n) (ht : P.underlying t2 = some (.slice e2))
 (hx : Qy g n x = some (cs, m)) (hm : 0 < m) (hr : Yw (k + m) by_ = true) (_ : Qk cs = true) (hsc : cs.all V.scalar = true) (hg : g f s = some (.grow k)) :
 Zj P mt fr g dst t t2 (.gS f s c0 k n) x = some (.val (.gS f s (c0 ++ cs) (k + m) n) (some (f, s, .grow (k + m)))) := by
 obtain ⟨m, rfl⟩ : ∃ k, m = k + 1 := ⟨m - 1, by omega⟩
 simp only [Zj, hu, hs, hb, hz, hzl, if_true, Y8, ht, hx, appendTo, hr, hsc, hg, and_self]
theorem Qcc {chk : List V} (hd : mt d = false) (_ : Qk chk = true) (hg : g fr d = none) : grown mt g fr (some d) cs chk m n = some (.val (.gS fr d cs m n) (some (fr, d, .grow m))) := by
 simp only [grown, hd, Zkz, if_false, new, hg]
end
theorem J9 {P : Program} {mt : Nat -> Bool} {fr : Nat} {g : Get} {d : Option Nat} {t t2 : TypeId} {s x : V} : builtinV P mt fr g d .append #[t, t2] [s, x] = Zj P mt fr g d t t2 s x := rfl
theorem Qr0 {P : Program} {mt : Nat -> Bool} {fr : Nat} {g : Get} {d : Option Nat} {t t2 : TypeId} {s x : V} : builtinV P mt fr g d .copy #[t, t2] [s, x] = Qbd P g t s x := rfl
theorem Qa2 {m by_ : Nat} (h : m * by_ <= 35184372088832) (h2 : m <= 35184372088832) : Yw m by_ = true := by
 simp [Yw, h, h2]
theorem B8 (l : List UInt8) : (Qc l).all V.scalar = true := by simp [Qc, V.scalar]
theorem Qn9 (l : List Int) : (Q3 l).all V.scalar = true := by simp [Q3, V.scalar]
theorem Zq.id? {esz n : Nat} {v : V} {cells : List V} (h : Zq esz v cells n) : v.id? = none := by
 obtain ⟨_, ⟨rfl, _⟩ | ⟨f, rfl⟩⟩ := h <;> rfl
theorem Zq.isSl {esz n : Nat} {v : V} {cells : List V} (h : Zq esz v cells n) : Qtg v = true := by
 obtain ⟨_, ⟨rfl, _⟩ | ⟨f, rfl⟩⟩ := h <;> rfl
end Go.AM
end
section
namespace Go.AM
theorem Qis (g : Get) (n : Nat) : ∀ l : List UInt8, Zb (frz g (n + 1)) (Qc l) = some (Qc l)
 | [] => rfl
 | b :: l => by
   have := Qis g n l
   simp only [Qc, Zlh] at this ⊢
   exact Qt rfl this
theorem Qez (g : Get) (n : Nat) : ∀ l : List Int, Zb (frz g (n + 1)) (Q3 l) = some (Q3 l)
 | [] => rfl
 | b :: l => by
   have := Qez g n l
   simp only [Q3, Zlh] at this ⊢
   exact Qt rfl this
theorem Q8s {g : Get} {cs cs' : List V} (h : Zb (frz g 11) cs = some cs') : frz g depth (.tuple cs) = some (.tuple cs') := by
 show (Zb (frz g 11) cs).map V.tuple = _
 rw [h]; rfl
section
variable {P : Program} {u e : TypeId} {g : Get}
theorem at_m (hu : P.underlying u = some (.slice e)) {q : Nat} (hs : sz P e = some q) {f s o len : Nat} {cap : Option Nat} {k : IntKind} {i : Int} (h0 : 0 <= i) (hi : i < len) : Q9 P u (.mS f s o len cap q) (.int k i) = some (.ptr f s (o + i.toNat * q)) := by
 simp only [Q9, hu, hs]
 rw [if_pos ⟨h0, hi, trivial⟩]
theorem at_r (hu : P.underlying u = some (.slice e)) {q : Nat} (hs : sz P e = some q) {f s len : Nat} {cs : List V} {k : IntKind} {i : Int} (hp : Qk cs = false) (h0 : 0 <= i) (hi : i < len) : Q9 P u (.gS f s cs len q) (.int k i) = some (.rptr cs (i.toNat * q)) := by
 simp only [Q9, hu, hs, hp, Zkz, if_false]
 rw [if_pos ⟨h0, hi, trivial⟩]
theorem len_m (hu : P.underlying u = some (.slice e)) {f s o len esz : Nat} {cap : Option Nat} : ∀ g, Ka P g u (.mS f s o len cap esz) = some (.int .i64 len) := fun g => by simp only [Ka, hu]
theorem len_g (hu : P.underlying u = some (.slice e)) {f s len esz : Nat} {cs : List V} : ∀ g, Ka P g u (.gS f s cs len esz) = some (.int .i64 len) := fun g => by simp only [Ka, hu]
end
theorem Qns {p : Nat -> Nat -> Bool} {s : Nat} {o : O} (h : o.refs p = false) : ∀ F : Frame, Zo p F = true -> Zo p (Qs F s o) = true
 | [], _ => by simp [Qs, Zo, h]
 | (k, q) :: r, h2 => by
   simp only [Zo, Zlm, Zmh] at h2
   simp only [Qs]
   split
   . simp [Zo, h, h2.2]
   . split
     . simp [Zo, h, h2.1, h2.2]
     . simp [Zo, h2.1, Qns h r h2.2]
theorem Qmg {p : Nat -> Nat -> Bool} {s : Nat} {o : O} (h : o.refs p = false) : ∀ (H : Heap) (f : Nat), Zh p H = true -> Zh p (hset H f s o) = true
 | [], f, _ => by simp [hset, Zh]
 | F :: H, 0, h2 => by
   simp only [Zh, Zlm] at h2
   simp [hset, Zh, Qns h F h2.1, h2.2]
 | F :: H, f + 1, h2 => by
   simp only [Zh, Zlm] at h2
   have := Qmg (s := s) h H f h2.2
   simp only [hset] at this ⊢
   simp [Zh, h2.1, this]
theorem WF.hset {H : Heap} {f s : Nat} {o : O} (h : WF H) (ho : o.refs (fun f _ => Nat.ble H.length f) = false) : WF (hset H f s o) := by
 unfold WF
 rw [Zm]
 exact Qmg ho H f h
theorem Qhd (p : Nat -> Nat -> Bool) : ∀ l : List UInt8, Qx p (Qc l) = false
 | [] => rfl
 | b :: l => by
   have := Qhd p l
   simp only [Qc, Zlh, Qx, V.refs, Zmx] at this ⊢
   exact this
theorem Zq.cells1 {esz n : Nat} {v : V} {cells : List V} (h : Zq esz v cells n) : v.cells = some [v] := by
 obtain ⟨_, ⟨rfl, _⟩ | ⟨f, rfl⟩⟩ := h <;> rfl
theorem Q0q {k : IntKind} {n : Int} : (V.int k n).cells = some [.int k n] := rfl
theorem Qyp {b : Bool} : (V.bool b).cells = some [.bool b] := rfl
theorem Q0l {s : List UInt8} : (V.str s).cells = some [.str s] := rfl
theorem Qrv : V.nP.cells = some [.nP] := rfl
theorem Q0g {f s o : Nat} : (V.ptr f s o).cells = some [.ptr f s o] := rfl
theorem Qww {c : List V} {o : Nat} : (V.iptr c o).cells = some [.iptr c o] := rfl
theorem Qnn : V.nS.cells = some [.nS] := rfl
theorem Qqz {c : List V} {n : Nat} {f : Bool} : (V.iS c n f).cells = some [.iS c n f] := rfl
theorem Qte {f s : Nat} {c : List V} {n e : Nat} : (V.gS f s c n e).cells = some [.gS f s c n e] := rfl
theorem Qq3 {f s o n e : Nat} {c : Option Nat} : (V.mS f s o n c e).cells = some [.mS f s o n c e] := rfl
theorem Qri : V.nM.cells = some [.nM] := rfl
theorem Qz4 {f s : Nat} : (V.map f s).cells = some [.map f s] := rfl
theorem Qxa {f : Fn} {a b : List V} : (V.func f a b).cells = some [.func f a b] := rfl
theorem Qph : V.nF.cells = some [.nF] := rfl
theorem Qn4 : V.nI.cells = some [.nI] := rfl
theorem Qw5 {t : TypeId} {v : V} : (V.face t v).cells = some [.face t v] := rfl
theorem Qgq {P : Program} {t e : TypeId} (hu : P.underlying t = some (.slice e)) {x y : Operand} {cs : List V} {n : Nat} {f : Bool} : Z1 P .eql t x y (.iS cs n f) .nS = some (.bool false) := by
 simp [Z1, Qjf, hu, Z9, Qy4, V.isNil]
theorem wrap_i64 {n : Int} (h1 : -9223372036854775808 <= n) (h2 : n <= 9223372036854775807) : (IntKind.i64).wrap n = n := by
 rw [IntKind.wrap_i64]; omega
theorem B0 {i : Nat} (h : i < 9223372036854775807) : (IntKind.i64).wrap ((i : Int) + 1) = ((i + 1 : Nat) : Int) := by
 rw [wrap_i64] <;> omega
end Go.AM
end
section
namespace Go.AM
section
variable {P : Program} {u e : TypeId} {g : Get}
theorem Quu (hu : P.underlying u = some (.slice e)) {q : Nat} (hs : sz P e = some q) {f s o len c : Nat} {w : Nat} {k : IntKind} (h : w <= len) (hc : len <= c) :
 ∀ g, Z4 P g u (.mS f s o len (some c) q) (some (.int k w)) none none = some (.mS f s (if c = w then o else o + w * q) (len - w) (some (c - w)) q) := by
 intro g
 simp only [Z4, Bb, hu, hs, if_true, Qn3, B3, Znb, Zmw]
 rw [if_pos ⟨by omega, by omega, by omega, by omega, by omega, by omega, by simp⟩]
 simp
end
def FP.kind : FP -> Nat
 | .quiet => 0
 | .ids _ [] => 1
 | _ => 2
def okK (bef : Array Nat) : List (Nat × Nat) -> Bool
 | [] => true
 | (a, i) :: r => r.all (fun (b, j) => (bef.getD j 0).testBit i || (Nat.ble a 1 && Nat.ble b 1)) && okK bef r
theorem Qym : ∀ a b : FP, Nat.ble a.kind 1 = true -> Nat.ble b.kind 1 = true -> a.indep b = true
 | .quiet, _, _, _ => rfl
 | .ids _ [], .quiet, _, _ => rfl
 | .ids _ (_ :: _), .quiet, _, _ => rfl
 | .all, .quiet, _, _ => rfl
 | .ids _ [], .ids _ [], _, _ => rfl
 | .ids _ (_ :: _), _, h, _ => by cases h
 | .all, _, h, _ => by cases h
 | _, .ids _ (_ :: _), _, h => by cases h
 | _, .all, _, h => by cases h
theorem Qmc (bef : Array Nat) : ∀ T : List (FP × Nat), okK bef (T.map fun x => (x.1.kind, x.2)) = true -> okT bef T = true
 | [], _ => rfl
 | (a, i) :: r, h => by
   simp only [Zlh, okK, Zlm, Zln] at h
   simp only [okT, Zlm, Zln]
   refine ⟨fun x hx => ?_, Qmc bef r h.2⟩
   have := h.1 (x.1.kind, x.2) (Zlo.2 ⟨x, hx, rfl⟩)
   simp only [Zmi, Zlm] at this ⊢
   exact this.imp id fun ⟨p, q⟩ => Qym _ _ p q
theorem W.opsK {P : Program} {pol : Pol} {C : Call} {L : Yx -> Kb} {fn fr : Nat} {t : List V} {H : Heap} {a : Array Oper} {T : List FP} {k : List It} {Q : Ex -> List V -> Heap -> Prop}
 (h : okK (Region.before a) ((loud T.reverse).map fun x => (x.1.kind, x.2)) = true) (h2 : W (U P pol C L fn fr k .normal t H) Q) : W (U P pol C L fn fr (.opsT a [] T :: k) .normal t H) Q :=
 W.opsT (Qmc _ _ h) h2
end Go.AM
end
section
namespace Go.AM
section
variable {P : Program} {t e : TypeId} {n : Nat} {y : V}
end
theorem Qnq {P : Program} {s d e : TypeId} {g : Get} {x : V} {l : List UInt8} {n : Nat} (hs : P.underlying s = some (.slice e)) (he : P.underlying e = some (.int .u8)) (hd : P.underlying d = some .string) (h : Qy g 1 x = some (Qc l, n)) :
 convertV P g s d x = some (.val (.str l) none) := by
 have hn : ∀ l, x ≠ .str l := by intro l e; subst e; simp [Qy] at h
 have hn2 : ∀ k m, x ≠ .int k m := by intro k m e; subst e; simp [Qy] at h
 simp only [convertV, hs, hd, he, h, Qbe, Zkw]
end Go.AM
end
section
namespace Go.AM
def itF : Code -> Option (Option Nat × List It)
 | .region _ ops false => (match ops.toList with
   | o :: r => some (o.dst, [.ops ops r])
   | [] => none)
 | .seq a b => (match itF a with
   | some (d, k) => some (d, k ++ [.code b])
   | none => none)
 | _ => none
section
variable {P : Program} {pol : Pol} {C : Call} {L : Yx -> Kb} {fn fr : Nat} {t : List V} {H : Heap} {Q : Ex -> List V -> Heap -> Prop}
theorem Jt : ∀ (k k' : List It) (e : Ex) (t : List V) (H : Heap), U P pol C L fn fr (k ++ k') e t H = (U P pol C L fn fr k e t H).bind fun x => U P pol C L fn fr k' x.1 x.2.1 x.2.2
 | [], _, _, _, _ => rfl
 | .code c :: k, k', e, t, H => by
   cases e with
   | normal =>
     simp only [Zmj, U]
     cases Za P pol C L fn fr c t H with
     | none => rfl
     | some x => exact Jt k k' x.1 x.2.1 x.2.2
   | exit i => exact Jt k k' _ t H
   | ret => exact Jt k k' _ t H
   | panic v => exact Jt k k' _ t H
 | .ops a l :: k, k', e, t, H => by
   cases e with
   | normal =>
     simp only [Zmj, U]
     cases Zg P pol C fn fr a l t H with
     | none => rfl
     | some x => exact Jt k k' x.1 x.2.1 x.2.2
   | exit i => exact Jt k k' _ t H
   | ret => exact Jt k k' _ t H
   | panic v => exact Jt k k' _ t H
 | .opsT a l T :: k, k', e, t, H => by
   cases e with
   | normal =>
     simp only [Zmj, U]
     cases Q7 P pol C fn fr a l t H with
     | none => rfl
     | some x =>
       simp only [Zlc]
       split
       . exact Jt k k' _ _ _
       . rfl
   | exit i => exact Jt k k' _ t H
   | ret => exact Jt k k' _ t H
   | panic v => exact Jt k k' _ t H
 | .block id :: k, k', e, t, H => by
   cases e with
   | exit i =>
     simp only [Zmj, U]
     split
     . exact Jt k k' _ t H
     . exact Jt k k' _ t H
   | normal => exact Jt k k' _ t H
   | ret => exact Jt k k' _ t H
   | panic v => exact Jt k k' _ t H
theorem Q3z {v : V} {w : Option (Nat × Nat × O)} : ∀ {c : Code} {d : Option Nat} {k : List It}, itF c = some (d, k) -> ∀ (t : List V) (H : Heap), Z0 P pol C L fn fr c v w t H = U P pol C L fn fr k .normal (Qe t d v) (wr H w) := by
 intro c
 induction c with
 | region id ops draw =>
   intro d k h t H
   cases draw with
   | true => cases h
   | false =>
     simp only [itF] at h
     simp only [Z0]
     cases ho : ops.toList with
     | nil => rw [ho] at h; cases h
     | cons o r =>
       rw [ho] at h
       cases h
       simp only [U]
       cases Zg P pol C fn fr ops r (Qe t o.dst v) (wr H w) with
       | none => rfl
       | some x => rfl
 | seq a b iha ihb =>
   intro d k h t H
   simp only [itF] at h
   cases ha : itF a with
   | none => rw [ha] at h; cases h
   | some x =>
     obtain ⟨d', k'⟩ := x
     rw [ha] at h
     cases h
     simp only [Z0, iha ha, Jt]
     cases U P pol C L fn fr k' .normal (Qe t d v) (wr H w) with
     | none => rfl
     | some x =>
       obtain ⟨e, t1, H1⟩ := x
       cases e with
       | normal => simp only [Zlc, Qs0]
       | exit i => rfl
       | ret => rfl
       | panic v => rfl
 | _ => intro d k h; cases h
theorem Q4k {α : Type} {b : Code} {x : Operand} {d : Option Nat} {k : List It} (hn : Zt b = some x) (hi : itF b = some (d, k)) (R : Ex × List V × Heap) (I : α -> List V -> Heap -> Prop) (m : α -> Nat)
 (step : ∀ a t H, I a t H -> ∃ t1 H1 cs, forget pol fn fr (Zp b) t H = some (t1, H1) /\ Yt (Qb H1) (rho t1 x) = some cs /\
   ∀ c ∈ cs, W (U P pol C Zv fn fr k .normal (Qe t1 d c.1) (wr H1 c.2)) fun e t2 H2 => match e with
     | .normal => ∃ a', I a' t2 H2 /\ m a' < m a
     | e => R = (e, t2, H2)) (a : α) (h : I a t H) : Zv (round P pol C Zv fn fr b) t H = some R := by
 induction hm : m a using Nat.strongRecOn generalizing a t H with
 | ind n ih =>
   subst hm
   obtain ⟨t1, H1, cs, h1, h2, h3⟩ := step a t H h
   rw [Qtl]
   have hr : round P pol C Zv fn fr b t H = cs.map fun c => U P pol C Zv fn fr k .normal (Qe t1 d c.1) (wr H1 c.2) := by
    simp only [round, h1, hn, h2, Q3z hi]
   rw [hr]
   refine Qdl (by simpa using Q3v h2) fun y hy => ?_
   rw [List.map_map] at hy
   obtain ⟨c, hc, rfl⟩ := Zlo.1 hy
   obtain ⟨e, t2, H2, q1, q2⟩ := (h3 c hc).out
   simp only [Function.comp, q1]
   cases e with
   | normal =>
     obtain ⟨a', q3, q4⟩ := q2
     exact ih _ q4 a' q3 rfl
   | exit i => exact congrArg some q2.symm
   | ret => exact congrArg some q2.symm
   | panic v => exact congrArg some q2.symm
theorem W.range {α : Type} {b : Code} {x : Operand} {d : Option Nat} {k : List It} (hn : Zt b = some x) (hi : itF b = some (d, k)) (R : Ex × List V × Heap) (I : α -> List V -> Heap -> Prop) (m : α -> Nat)
 (step : ∀ a t H, I a t H -> ∃ t1 H1 cs, forget pol fn fr (Zp b) t H = some (t1, H1) /\ Yt (Qb H1) (rho t1 x) = some cs /\
   ∀ c ∈ cs, W (U P pol C Zv fn fr k .normal (Qe t1 d c.1) (wr H1 c.2)) fun e t2 H2 => match e with
     | .normal => ∃ a', I a' t2 H2 /\ m a' < m a
     | e => R = (e, t2, H2)) (a : α) (h : I a t H) (hQ : Q R.1 R.2.1 R.2.2) : W (Zv (round P pol C Zv fn fr b) t H) Q := by
 rw [Q4k hn hi R I m step a h]; exact hQ
theorem Q12 {g : Get} {f s : Nat} {m : Nat × Nat} {since stepped clk : Nat} {seen : List Nat} {es : List (V × V)} {bs : List Nat} (h1 : g f s = some (.iter (some m) since seen stepped)) (h2 : g m.1 m.2 = some (.map es bs clk))
 (h3 : ∀ b ∈ bs, b < since) (h4 : since <= stepped) : ∃ cs, Yt g (.ptr f s 0) = some cs /\ ∀ c ∈ cs, (Yy seen es bs = [] /\ c = (.tuple [.bool false], some (f, s, .dead))) \/
   ∃ e ∈ Yy seen es bs, c = (.tuple [.bool true, e.1.1, e.1.2], some (f, s, .iter (some m) since (seen ++ [e.2]) clk)) := by
 have hall : (bs.all (fun b => decide (b < since)) && decide (since <= stepped)) = true := by
  rw [Zlm, Zln]
  exact ⟨fun b hb => Znv (h3 b hb), Znv h4⟩
 simp only [Yt, h1, h2, hall, if_true]
 cases hl : Yy seen es bs with
 | nil => exact ⟨_, rfl, fun c hc => .inl ⟨rfl, Zll.1 hc⟩⟩
 | cons y l =>
   refine ⟨_, rfl, fun c hc => .inr ?_⟩
   obtain ⟨e, he, rfl⟩ := Zlo.1 hc
   exact ⟨e, he, rfl⟩
end
end Go.AM
end
section
namespace Go.AM
def Yo (P : Program) (t : TypeId) (i : Nat) : Option (Nat × TypeId) :=
 match P.underlying t with
 | some (.struct fs) => (match fs[i]? with
   | some f => (match sz P f.type with
     | some n => if n = 0 then none else some (f.offset, f.type)
     | none => none)
   | none => none)
 | _ => none
def plOf (P : Program) (t : TypeId) : Option (List (Nat × Nat)) :=
 match P.underlying t with
 | some (.struct fs) => Qea P fs.toList
 | _ => none
def Yp (P : Program) (t : TypeId) (i : Nat) : Option (Nat × TypeId) :=
 match P.underlying t with
 | some (.struct fs) => (match fs[i]? with
   | some f => some (f.offset, f.type)
   | none => none)
 | _ => none
def faV (off : Nat) : V -> Option V
 | .ptr a b o => some (.ptr a b (o + off))
 | .iptr cs o => some (.iptr cs (o + off))
 | .rptr cs o => some (.rptr cs (o + off))
 | _ => none
def faO : Option (Nat × TypeId) -> V -> Option V
 | some x, v => faV x.1 v
 | none, _ => none
def fvO (P : Program) : Option (Nat × TypeId) -> V -> Option V
 | some x, .agg cs => Qbl P x.2 cs x.1
 | _, _ => none
section
variable {P : Program} {mt : Nat -> Bool} {fr : Nat} {g : Get} {r : Operand -> V} {d : Option Nat} {ty u : TypeId} {ps : String} {af : Array Edge} {gd : Option (Nat × Bool)} {x : Operand}
theorem ev_fa {t : TypeId} {i : Nat} : Ql P mt fr g r { dst := d, op := .fieldAddr t x i, type := ty, pos := ps, after := af, guard := gd } = (faO (Yo P t i) (r x)).map fun v => .val v none := by
 unfold Yo
 simp only [Ql]
 cases P.underlying t with
 | none => rfl
 | some dd =>
   cases dd with
   | struct fs =>
     simp only
     cases fs[i]? with
     | none => rfl
     | some f =>
       simp only
       cases sz P f.type with
       | none => rfl
       | some n =>
         simp only
         by_cases h0 : n = 0
         . simp only [h0, if_true]; rfl
         . simp only [h0, if_false]
           cases r x <;> rfl
   | _ => rfl
theorem Q2g {t : TypeId} {i : Nat} : Ql P mt fr g r { dst := d, op := .field t x i, type := ty, pos := ps, after := af, guard := gd } = (fvO P (Yp P t i) (r x)).map fun v => .val v none := by
 unfold Yp
 simp only [Ql]
 cases P.underlying t with
 | none => rfl
 | some dd =>
   cases dd with
   | struct fs =>
     cases r x <;> simp only <;> cases fs[i]? <;> rfl
   | _ => rfl
theorem Qip {t : TypeId} {z : List V} {ps : List (Nat × Nat)} (hz : zeroCells P t = some z) (hp : plOf P t = some ps) (parts : List (Nat × V)) : Xw P t parts = (Qo (fun i => ps[i]?) z parts).map .agg := by
 unfold plOf at hp
 unfold Xw
 rw [hz]
 split at hp
 case h_2 => cases hp
 rename_i fs hu
 rw [hu]
 simp only [hp]
theorem fa_ptr {off a b o : Nat} : faV off (.ptr a b o) = some (.ptr a b (o + off)) := rfl
theorem Q76 {off o : Nat} {cs : List V} : faV off (.iptr cs o) = some (.iptr cs (o + off)) := rfl
theorem Q2r {off : Nat} {t : TypeId} {v : V} : faO (some (off, t)) v = faV off v := rfl
theorem fv_agg {t : TypeId} {off : Nat} {cs : List V} : fvO P (some (off, t)) (.agg cs) = Qbl P t cs off := rfl
end
end Go.AM
end
section
namespace Go.AM
def ldO (P : Program) (t : TypeId) (o : Nat) : Option O -> Option V
 | some (.cells xs) => Q0 P t xs o
 | _ => none
def ldV (P : Program) (t : TypeId) (g : Get) : V -> Option V
 | .ptr f s o => ldO P t o (g f s)
 | .iptr cs o => Q0 P t cs o
 | .rptr cs o => Q0 P t cs o
 | _ => none
def stO (n f s o : Nat) (cs : List V) : Option O -> Option Zk
 | some (.cells xs) => if cs.length = n /\ o + n <= xs.length then some (.val .bad (some (f, s, .cells (splice xs o cs)))) else none
 | _ => none
def stV (g : Get) : Option Nat -> V -> Option (List V) -> Option Zk
 | some n, .ptr f s o, some cs => stO n f s o cs (g f s)
 | _, _, _ => none
section
variable {P : Program} {mt : Nat -> Bool} {fr : Nat} {g : Get} {r : Operand -> V} {d : Option Nat} {ty u : TypeId} {ps : String} {af : Array Edge} {gd : Option (Nat × Bool)} {x a : Operand}
theorem Q6p {t : TypeId} : Ql P mt fr g r { dst := d, op := .load t a, type := ty, pos := ps, after := af, guard := gd } = (ldV P t g (r a)).map fun v => .val v none := by
 simp only [Ql]
 cases r a with
 | ptr f s o =>
   simp only [ldV]
   cases g f s with
   | none => rfl
   | some q => cases q <;> rfl
 | _ => rfl
theorem Q5r {t : TypeId} : Ql P mt fr g r { dst := d, op := .store t a x, type := ty, pos := ps, after := af, guard := gd } = stV g (sz P t) (r a) (r x).cells := by
 simp only [Ql]
 cases sz P t with
 | none => cases r a <;> first | rfl | (cases (r x).cells <;> rfl)
 | some n =>
   cases r a with
   | ptr f s o =>
     cases (r x).cells with
     | none => rfl
     | some cs =>
       simp only [stV]
       cases g f s with
       | none => rfl
       | some q => cases q <;> rfl
   | _ => rfl
theorem ld_ptr {t : TypeId} {f s o : Nat} : ldV P t g (.ptr f s o) = ldO P t o (g f s) := rfl
theorem Q7f {t : TypeId} {o : Nat} {cs : List V} : ldV P t g (.iptr cs o) = Q0 P t cs o := rfl
theorem Q16 {t : TypeId} {o : Nat} {xs : List V} : ldO P t o (some (.cells xs)) = Q0 P t xs o := rfl
theorem st_ptr {n f s o : Nat} {cs : List V} : stV g (some n) (.ptr f s o) (some cs) = stO n f s o cs (g f s) := rfl
theorem Q0u {n f s o : Nat} {cs xs : List V} : stO n f s o cs (some (.cells xs)) = if cs.length = n /\ o + n <= xs.length then some (.val .bad (some (f, s, .cells (splice xs o cs)))) else none := rfl
theorem Qfd {t : TypeId} {dd : TypeDesc} {n : Nat} (h : P.underlying t = some dd) (hs : sz P t = some n) (ha : Qlf dd = true) (cs : List V) (o : Nat) :
 Q0 P t cs o = if o + n <= cs.length then some (.agg ((cs.drop o).take n)) else none := by
 simp only [Q0, h, hs, ha, if_true]
theorem Q1j {cs : List V} : (V.agg cs).cells = if cs.all V.scalar then some cs else none := rfl
theorem Q6z {b : Bool} : (V.bool b).scalar = true := rfl
theorem sc_int {k : IntKind} {n : Int} : (V.int k n).scalar = true := rfl
theorem sc_str {s : List UInt8} : (V.str s).scalar = true := rfl
theorem Q0f : V.nP.scalar = true := rfl
theorem sc_ptr {f s o : Nat} : (V.ptr f s o).scalar = true := rfl
theorem Q7j {cs : List V} {o : Nat} : (V.iptr cs o).scalar = true := rfl
theorem Quv : V.nS.scalar = true := rfl
theorem Q1h {cs : List V} {n : Nat} {b : Bool} : (V.iS cs n b).scalar = true := rfl
theorem Q00 {f s o n : Nat} {c : Option Nat} {e : Nat} : (V.mS f s o n c e).scalar = true := rfl
theorem Q19 {f s n e : Nat} {cs : List V} : (V.gS f s cs n e).scalar = true := rfl
theorem Q1y : V.nM.scalar = true := rfl
theorem sc_map {f s : Nat} : (V.map f s).scalar = true := rfl
theorem Q6g {f : Fn} {a b : List V} : (V.func f a b).scalar = true := rfl
end
end Go.AM
end
section
namespace Go.AM
theorem Q8m {b : Bool} : unV .not (.bool b) = some (.bool !b) := rfl
abbrev Qn := And.intro @u_seq <| And.intro @Q20 <| And.intro @Q8f <| And.intro @w_op <| And.intro @us_val <| And.intro @Q80 <| And.intro @Q53 <| And.intro @uc_ret <| And.intro @uc_pan <| And.intro @w_cond <| And.intro @Q8x <| And.intro @Q46 <| And.intro @w_opT <| And.intro @Q8l <| And.intro @Q65 <| And.intro @Q3d <| And.intro @Q8n <| And.intro @Q41 <| And.intro @ugt_tt <| And.intro @ugt_ff <| And.intro @ugt_tf <| And.intro @ugt_ft <| And.intro @u_draw <| And.intro @Q8e <| And.intro @ug_tt <| And.intro @ug_ff <| And.intro @ug_tf <| And.intro @ug_ft <| And.intro @ug_no <| And.intro @ugt_no <| And.intro @w_loop <| And.intro @Q8a <| And.intro @Q2b <| And.intro @u_skip <| And.intro @u_ret <| And.intro @u_exit <| And.intro @u_nil <| And.intro @Qwk <| And.intro @Quz <| And.intro @Qrc <| And.intro @Ql4 <| And.intro @Qul <| And.intro @Qpf <| And.intro @Qs3 <| And.intro @b_add <| And.intro @b_sub <| And.intro @b_mul <| And.intro @b_eql <| And.intro @b_neq <| And.intro @b_lss <| And.intro @b_leq <| And.intro @b_gtr <| And.intro @b_geq <| And.intro @b_sadd <| And.intro @b_seql <| And.intro @b_sneq <| And.intro @oc_int <| And.intro @Q6w <| And.intro @oc_str <| And.intro @Qvf <| And.intro @Q1t <| And.intro @Qz7 <| And.intro @Qx1 <| And.intro @Qx0 <| And.intro @bi_len <| And.intro @bi_max <| And.intro @bi_min <| And.intro @mx_nil <| And.intro @mx_one <| And.intro @Qxo <| And.intro @Qq6 <| And.intro @Q8t <| And.intro @Q4c <| @Q6j
abbrev Qj := And.intro @Q8m <| And.intro @Q2r <| And.intro @fa_ptr <| And.intro @Q76 <| And.intro @fv_agg <| And.intro @ld_ptr <| And.intro @Q7f <| And.intro @Q16 <| And.intro @st_ptr <| And.intro @Q1j <| And.intro @Q6z <| And.intro @sc_int <| And.intro @sc_str <| And.intro @Q0f <| And.intro @sc_ptr <| And.intro @Q7j <| And.intro @Quv <| And.intro @Q1h <| And.intro @Q00 <| And.intro @Q19 <| And.intro @Q1y <| And.intro @sc_map <| @Q6g
abbrev Qr := And.intro @Q0q <| And.intro @Qyp <| And.intro @Q0l <| And.intro @Qrv <| And.intro @Q0g <| And.intro @Qww <| And.intro @Qnn <| And.intro @Qqz <| And.intro @Qte <| And.intro @Qq3 <| And.intro @Qri <| And.intro @Qz4 <| And.intro @Qxa <| And.intro @Qph <| And.intro @Qn4 <| @Qw5
abbrev Qh := And.intro @List.getD_cons_zero.{0} <| And.intro @List.getD_cons_succ.{0} <| And.intro @List.set_cons_zero.{0} <| And.intro @List.set_cons_succ.{0} <| And.intro @List.map_cons.{0, 0} <| And.intro @List.map_nil.{0, 0} <| And.intro @Option.map_some.{0, 0} <| And.intro @Option.map_none.{0, 0} <| And.intro @Option.bind_some.{0, 0} <| And.intro @Option.bind_none.{0, 0} <| And.intro @List.length_nil.{0} <| And.intro @List.length_cons.{0} <| And.intro @List.nil_append.{0} <| And.intro @List.cons_append.{0} <| And.intro @List.append_nil.{0} <| And.intro @List.replicate_succ.{0} <| And.intro @List.replicate_zero.{0} <| And.intro @List.getElem?_cons_zero.{0} <| And.intro @List.getElem?_cons_succ.{0} <| @List.getElem?_toArray.{0}
end Go.AM
end
section
namespace Go.AM
section
variable {P : Program} {pol : Pol} {C : Call} {L : Yx -> Kb} {fn fr : Nat} {t : List V} {H : Heap} {d : Option Nat} {k : List It} {Q : Ex -> List V -> Heap -> Prop} {a : Array Oper} {r : List Oper} {T : List FP} {o : Oper}
theorem W.guardX {b want : Bool} (h1 : b = want -> W (U P pol C L fn fr (.opsT a (o :: r) T :: k) .normal t H) Q) (h2 : b = (!want) -> W (U P pol C L fn fr (.opsT a r (.quiet :: T) :: k) .normal (Qe t d nov) H) Q) : W (UGT P pol C L fn fr (some (.bool b)) want o d a r T k t H) Q := by
 unfold UGT
 by_cases h : b = want
 . simp only [h, if_true]; exact h1 h
 . simp only [h, if_false]; exact h2 (by cases b <;> cases want <;> simp_all)
theorem W.guardXT {b : Bool} (h1 : b = true -> W (U P pol C L fn fr (.opsT a (o :: r) T :: k) .normal t H) Q) (h2 : b = false -> W (U P pol C L fn fr (.opsT a r (.quiet :: T) :: k) .normal (Qe t d nov) H) Q) : W (UGT P pol C L fn fr (some (.bool b)) true o d a r T k t H) Q := W.guardX h1 h2
theorem W.guardXF {b : Bool} (h1 : b = false -> W (U P pol C L fn fr (.opsT a (o :: r) T :: k) .normal t H) Q) (h2 : b = true -> W (U P pol C L fn fr (.opsT a r (.quiet :: T) :: k) .normal (Qe t d nov) H) Q) : W (UGT P pol C L fn fr (some (.bool b)) false o d a r T k t H) Q := W.guardX h1 h2
theorem Quy {f : FuncId} {args args' : List V} {v v' : V} {H' : Heap} (hp : pol.prim f = none) (hq : pol.pure fn f = false) (hl : pol.lift fn f = false) (hk : pol.look fn f = true) (ha : Zb (frz (Qb H) depth) args = some args') (h : Q5 P pol f args' [] = some (.ret v, H')) (hv : frzN (Qb H') depth v = some v') :
 callOp pol (Q5 P pol) fn fr d f args H = some (.ret v', H) := by
 simp only [callOp, hp, hq, hl, hk, if_true, ha, Zkz, if_false, h, hv, Zkw]
theorem W.opsK1 (h : okK (Region.before a) ((loud T.reverse).map fun x => (x.1.kind, x.2)) = true) (h2 : True -> W (U P pol C L fn fr k .normal t H) Q) : W (U P pol C L fn fr (.opsT a [] T :: k) .normal t H) Q :=
 W.opsK h (h2 trivial)
end
end Go.AM
end
section
namespace Go.AM
abbrev ai {p q : Prop} (h : p) (k : q) : p /\ q := ⟨h, k⟩
abbrev Qg := ai @decide_true <| ai @decide_false <| ai @eq_self.{1} <| ai @Bool.not_true <| ai @Bool.not_false <| ai @Q0u <| ai @List.all_cons.{0} <| ai @List.all_nil.{0} <| ai @Bool.and_self <| ai @Bool.and_true <| ai @Bool.false_eq_true <| @Q60
abbrev Qi := ai @ev_fa <| ai @Q2g <| ai @Q6p <| @Q5r
abbrev Qp := ai @List.modify_zero_cons.{0} <| ai @List.modify_succ_cons.{0} <| ai @List.modify_cons.{0} <| ai @Nat.lt_irrefl <| ai @Nat.not_lt_zero <| @Nat.lt_add_one
abbrev Qq := ai @Nat.one_ne_zero <| ai @and_self <| ai @and_true <| ai @true_and <| ai @List.take_zero.{0} <| ai @List.drop_succ_cons.{0} <| ai @List.drop_zero.{0} <| ai @List.take_succ_cons.{0} <| ai @List.replicate_one.{0} <| ai @List.drop_nil.{0} <| ai @List.take_nil.{0} <| ai @Nat.le_refl <| ai @Nat.zero_add <| ai @Nat.zero_mul <| ai @Nat.one_mul <| @Nat.mul_one
abbrev Jz := ai @Bool.or_true <| ai @Bool.true_or <| ai @Bool.or_false <| ai @Bool.false_or <| ai @Bool.and_true <| ai @Bool.true_and <| ai @Bool.and_false <| ai @Bool.false_and <| ai @Bool.not_true <| ai @Bool.not_false <| @Bool.false_eq_true
abbrev Qm8 := ai @Qnj <| ai @Jv <| ai @Qt8 <| ai @Kv <| ai @Qz0 <| ai @Q2d <| ai @Q14 <| ai @Q0i <| ai @Nat.lt_irrefl <| ai @Nat.not_lt_zero <| @Nat.lt_add_one
end Go.AM
end
section
namespace Go.AM
section
variable {P : Program} {E : Env} {B : Nat} {F : Nat -> Nat -> Prop} {H : Heap}
end
end Go.AM
end
section
namespace Go.AM
section
variable {P : Program} {pol : Pol} {L : Yx -> Kb} {fn fr : Nat} {t : List V} {H : Heap} {k : List It} {Q : Ex -> List V -> Heap -> Prop}
theorem Q57 {C : Call} {g : Operand} {ps : Array Tmp} {a b : Code} {f : FuncId} {first cap : List V} (hg : rho t g = .func (.func f) first cap) (hf : Qb H fr (Zc (Zf a b)) = none) :
 U P pol C L fn fr (.code (.rangeFunc g ps a b) :: k) .normal t H = (match C f (first ++ [.yield fr (Zc (Zf a b))] ++ cap) (hset H fr (Zc (Zf a b)) (.loop 0 none fn (Zf a b) t)) with
   | some (.ret _, H2) => UL P pol C L fn fr (Bl fr (Zc (Zf a b)) t H2) k
   | _ => none) := by
 simp only [U, Za, hg, hf, UL]
 cases C f (first ++ [.yield fr (Zc (Zf a b))] ++ cap) (hset H fr (Zc (Zf a b)) (.loop 0 none fn (Zf a b) t)) with
 | none => rfl
 | some q => obtain ⟨q, H2⟩ := q; cases q <;> rfl
theorem W.rfunc {g : Operand} {ps : Array Tmp} {a b : Code} {f : FuncId} {first cap : List V} {rid : Nat} (hr : Zf a b = rid) (hg : rho t g = .func (.func f) first cap) (hf : Qb H fr (Zc rid) = none)
 (h : CW P pol f (first ++ [.yield fr (Zc rid)] ++ cap) (hset H fr (Zc rid) (.loop 0 none fn rid t)) fun r H2 => ∃ v, r = .ret v /\ W (UL P pol (Q5 P pol) L fn fr (Bl fr (Zc rid) t H2) k) Q) :
 W (U P pol (Q5 P pol) L fn fr (.code (.rangeFunc g ps a b) :: k) .normal t H) Q := by
 subst hr
 obtain ⟨r, H2, h1, v, rfl, h2⟩ := h
 rw [Q57 hg hf, h1]
 exact h2
theorem Qm5 {s st f r : Nat} {t0 : List V} (hg : Qb H fr s = some (.loop st none f r t0)) (hst : st ≠ 1) (h1 : Qx (Jl fr s) t = false) (h2 : Zh (Jl fr s) (H.modify fr (J8 fun x => [s].contains x)) = true) :
 Bl fr s t H = some (.normal, t, H.modify fr (J8 fun x => [s].contains x)) := by
 simp only [Bl, hg, if_neg hst, h1, h2, Zkz, if_false, if_true]
theorem Qqi {F : Func} {c : Code} {fn rid : Nat} {x : Array Tmp × Code × Code} (hF : P.funcs[fn]? = some F) (hc : F.body = some c) (h : Q4 rid c = some x) : Qv P fn rid = some x := by
 simp only [Qv, hF, hc, h]
theorem Qqb {t : List V} {i : Nat} {x d : V} (h : i < t.length) : (t.set i x).getD i d = x := by simp [List.getD, h]
theorem Qqq {t : List V} {i j : Nat} {x d : V} (h : (i == j) = false) : (t.set i x).getD j d = t.getD j d := by
 have : i ≠ j := by simpa using h
 simp [List.getD, this]
theorem Qt7 {fo so : Nat} {args : List V} {p : Option (Option Nat)} {fL rid : Nat} {t0 : List V} {ps : Array Tmp} {a b : Code} {R : Rt -> Heap -> Prop}
 (hg : Qb H fo so = some (.loop 0 p fL rid t0)) (hl : Qv P fL rid = some (ps, a, b)) (hn : args.length = ps.size)
 (h : W (U P pol (Q5 P pol) Zv fL H.length [.code a] .normal (Xz t0 (ps.toList.zip args)) (H ++ [[]])) fun e t1 H1 => e = .normal /\ ∃ p' fL' rid' t0', Qb H1 fo so = some (.loop 0 p' fL' rid' t0') /\
   W (U P pol (Q5 P pol) Zv fL H.length [.code b] .normal t1 (hset H1 fo so (.loop 1 p' fL' rid' t0'))) fun e _ H2 => ∃ r H3, Xl fo so H.length e H2 = some (r, H3) /\ R r H3) :
 ∃ r H3, Q5 P pol none (.yield fo so :: args) H = some (r, H3) /\ R r H3 := by
 obtain ⟨e, t1, H1, h1, rfl, p', fL', rid', t0', h2, h3⟩ := h.out
 obtain ⟨e2, t2, H2, h4, r, H3, h5, h6⟩ := h3.out
 refine ⟨r, H3, Qvt ?_, h6⟩
 have one' : ∀ (fr : Nat) (c : Code) t H, U P pol (Q5 P pol) Zv fL fr [.code c] .normal t H = Za P pol (Q5 P pol) Zv fL fr c t H := by
  intro fr c t H
  simp only [U]
  cases Za P pol (Q5 P pol) Zv fL fr c t H <;> rfl
 rw [one'] at h1 h4
 unfold B6
 simp only [hg, hl, if_pos hn, h1, h2, h4]
 exact h5
end
end Go.AM
end
