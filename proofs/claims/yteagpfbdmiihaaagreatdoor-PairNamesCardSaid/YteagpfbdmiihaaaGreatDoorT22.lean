/- This file holds in one the texts An30, Bx28, Bx33, Bx29; each says at its head what it proves. -/
import Derived.Test.YteagpfbdmiihaaaGreatDoorT13
import Derived.Test.YteagpfbdmiihaaaGreatDoorT20
import Derived.Test.YteagpfbdmiihaaaGreatDoorT21
set_option linter.unusedSimpArgs false
set_option linter.unusedVariables false
section
namespace Go.AM
def W (X : Out) (Q : Ex -> List V -> Heap -> Prop) : Prop := match X with
 | some (e, t, H) => Q e t H
 | none => False
theorem W.mono {X : Out} {Q Q' : Ex -> List V -> Heap -> Prop} (h : W X Q) (k : ∀ e t H, Q e t H -> Q' e t H) : W X Q' := by
 cases X with
 | none => exact h
 | some x => exact k _ _ _ h
theorem W.out {X : Out} {Q : Ex -> List V -> Heap -> Prop} (h : W X Q) : ∃ e t H, X = some (e, t, H) /\ Q e t H := by
 cases X with
 | none => exact h.elim
 | some x => exact ⟨_, _, _, rfl, h⟩
section
variable {P : Program} {pol : Pol} {C : Call} {L : Yx -> Kb} {fn fr : Nat} {t : List V} {H : Heap} {d : Option Nat} {k k' : List It} {Q : Ex -> List V -> Heap -> Prop}
theorem W.done {e : Ex} (h : Q e t H) : W (some (e, t, H)) Q := h
theorem W.ite {b : Bool} (h1 : b = true -> W (U P pol C L fn fr k .normal t H) Q) (h2 : b = false -> W (U P pol C L fn fr k' .normal t H) Q) : W (UI P pol C L fn fr (.bool b) k k' t H) Q := by
 cases b with
 | true => exact h1 rfl
 | false => exact h2 rfl
theorem W.guard {b want : Bool} (h1 : b = want -> W (U P pol C L fn fr k .normal t H) Q) (h2 : b = (!want) -> W (U P pol C L fn fr k' .normal (Qe t d nov) H) Q) : W (UG P pol C L fn fr (some (.bool b)) want k k' d t H) Q := by
 unfold UG
 by_cases h : b = want
 . simp only [h, if_true]; exact h1 h
 . simp only [h, if_false]; exact h2 (by cases b <;> cases want <;> simp_all)
theorem W.guardT {b : Bool} (h1 : b = true -> W (U P pol C L fn fr k .normal t H) Q) (h2 : b = false -> W (U P pol C L fn fr k' .normal (Qe t d nov) H) Q) : W (UG P pol C L fn fr (some (.bool b)) true k k' d t H) Q := W.guard h1 h2
theorem W.guardF {b : Bool} (h1 : b = false -> W (U P pol C L fn fr k .normal t H) Q) (h2 : b = true -> W (U P pol C L fn fr k' .normal (Qe t d nov) H) Q) : W (UG P pol C L fn fr (some (.bool b)) false k k' d t H) Q := W.guard h1 h2
theorem W.ul {X : Out} (h : W X fun e t H => W (U P pol C L fn fr k e t H) Q) : W (UL P pol C L fn fr X k) Q := by
 cases X with
 | none => exact h.elim
 | some x => exact h
theorem W.loop {α : Type} {b : Code} (I : α -> List V -> Heap -> Prop) (m : α -> Nat)
 (step : ∀ a t H, I a t H -> ∃ t1 H1, forget pol fn fr (Zp b) t H = some (t1, H1) /\ W (U P pol C Zv fn fr [.code b] .normal t1 H1) fun e t2 H2 => match e with
   | .normal => ∃ a', I a' t2 H2 /\ m a' < m a
   | e => Q e t2 H2) (a : α) (h : I a t H) (hn : Zt b = none := by rfl) : W (Zv (round P pol C Zv fn fr b) t H) Q := by
 induction hm : m a using Nat.strongRecOn generalizing a t H with
 | ind n ih =>
   subst hm
   obtain ⟨t1, H1, h1, h2⟩ := step a t H h
   obtain ⟨e, t2, H2, h3, h4⟩ := h2.out
   rw [Q2a ((Q3m hn h1).trans (by rw [h3]))]
   cases e with
   | normal =>
     obtain ⟨a', h5, h6⟩ := h4
     exact ih _ h6 a' h5 rfl
   | exit i => exact h4
   | ret => exact h4
   | panic v => exact h4
theorem W.loopS {α : Type} {b : Code} {kt : List Nat} (hk : pol.keep fn (Zp b) = some (kt, [])) (S : α -> List V) (HS : α -> Heap) (I : α -> Prop) (m : α -> Nat)
 (step : ∀ a, I a -> W (U P pol C Zv fn fr [.code b] .normal (S a) (HS a)) fun e t2 H2 => match e with
   | .normal => ∃ a', Bi kt t2 0 = S a' /\ H2 = HS a' /\ I a' /\ m a' < m a
   | e => Q e t2 H2) (a : α) (h : I a) (ht : Bi kt t 0 = S a) (hH : H = HS a) (hn : Zt b = none := by rfl) (hm : pol.move fn (Zp b) = none := by rfl) : W (Zv (round P pol C Zv fn fr b) t H) Q := by
 refine W.loop (Q := Q) (fun a t H => Bi kt t 0 = S a /\ H = HS a /\ I a) m ?_ a ⟨ht, hH, h⟩ hn
 rintro a t H ⟨h1, h2, h3⟩
 refine ⟨S a, HS a, by rw [Qv7 hk hm, h1, h2], (step a h3).mono ?_⟩
 intro e t2 H2 h4
 cases e with
 | normal => obtain ⟨a', q1, q2, q3, q4⟩ := h4; exact ⟨a', ⟨q1, q2, q3⟩, q4⟩
 | exit i => exact h4
 | ret => exact h4
 | panic v => exact h4
def End (P : Program) (F : Func) (b : Nat) (R : Rt -> Heap -> Prop) (e : Ex) (t : List V) (H : Heap) : Prop := match e with
 | .normal | .ret => ∃ v, Qa4 P F t H = some v /\ R (.ret v) (B2 b v H)
 | .panic v => R (.pan v) (B2 b v H)
 | .exit _ => False
theorem End.ret {F : Func} {b : Nat} {R : Rt -> Heap -> Prop} {v : V} (h : Qa4 P F t H = some v) (h2 : R (.ret v) (B2 b v H)) : End P F b R .ret t H := ⟨v, h, h2⟩
theorem End.normal {F : Func} {b : Nat} {R : Rt -> Heap -> Prop} {v : V} (h : Qa4 P F t H = some v) (h2 : R (.ret v) (B2 b v H)) : End P F b R .normal t H := ⟨v, h, h2⟩
def CW (P : Program) (pol : Pol) (f : FuncId) (args : List V) (H : Heap) (R : Rt -> Heap -> Prop) : Prop := ∃ r H', Q5 P pol f args H = some (r, H') /\ R r H'
theorem CW.mono {f : FuncId} {args : List V} {R R' : Rt -> Heap -> Prop} (h : CW P pol f args H R) (k : ∀ r H', R r H' -> R' r H') : CW P pol f args H R' := by
 obtain ⟨r, H', h1, h2⟩ := h; exact ⟨r, H', h1, k _ _ h2⟩
theorem Xk {f : FuncId} {F : Func} {c : Code} {args : List V} {R : Rt -> Heap -> Prop} (hF : P.funcs[f]? = some F) (hc : F.body = some c)
 (h : W (U P pol (Q5 P pol) Zv f H.length [.code c] .normal (args ++ List.replicate (F.ntmps - args.length) .bad) (H ++ [[]])) (End P F H.length R)) (hs : pol.settle f = [] := by rfl) : CW P pol f args H R := by
 obtain ⟨e, t', H', h1, h2⟩ := h.out
 have key : ∀ r, Qmn P F H.length (some (e, t', H')) = some r -> Q5 P pol f args H = some r := fun r hr => Q79 hF hc (by rw [h1]; exact hr) hs
 cases e with
 | normal =>
   obtain ⟨v, h3, h4⟩ := h2
   exact ⟨_, _, key (.ret v, B2 H.length v H') (by simp only [Qmn, h3]), h4⟩
 | ret =>
   obtain ⟨v, h3, h4⟩ := h2
   exact ⟨_, _, key (.ret v, B2 H.length v H') (by simp only [Qmn, h3]), h4⟩
 | exit i => exact h2.elim
 | panic v => exact ⟨_, _, key (.pan v, B2 H.length v H') rfl, h2⟩
def Fz (P : Program) (pol : Pol) (f : FuncId) (args : List V) (R : V -> Prop) : Prop := ∃ v H' v', Q5 P pol f args [] = some (.ret v, H') /\ frz (Qb H') depth v = some v' /\ R v'
theorem Fz.mono {f : FuncId} {args : List V} {R R' : V -> Prop} (h : Fz P pol f args R) (k : ∀ v, R v -> R' v) : Fz P pol f args R' := by
 obtain ⟨v, H', v', h1, h2, h3⟩ := h; exact ⟨v, H', v', h1, h2, k _ h3⟩
theorem Fz.of_cw {f : FuncId} {args : List V} {R : V -> Prop} (h : CW P pol f args [] fun r H' => ∃ v, r = .ret v /\ ∃ v', frz (Qb H') depth v = some v' /\ R v') : Fz P pol f args R := by
 obtain ⟨r, H', h1, v, rfl, v', h2, h3⟩ := h; exact ⟨v, H', v', h1, h2, h3⟩
theorem Fz.op' {f : FuncId} {args args' : List V} {R : V -> Prop} (h : Fz P pol f args' R) (hp : pol.prim f = none) (ha : Zb (frz (fun _ _ => none) depth) args = some args') :
 ∃ v, R v /\ ∀ (fn fr : Nat) (d : Option Nat) (H : Heap), pol.pure fn f = true -> callOp pol (Q5 P pol) fn fr d f args H = some (.ret v, H) := by
 obtain ⟨v, H', v', h1, h2, h3⟩ := h
 exact ⟨v', h3, fun fn fr d H hq => Qkq hp hq ha h1 h2⟩
theorem Fz.op {f : FuncId} {args : List V} {R : V -> Prop} (h : Fz P pol f args R) (hp : pol.prim f = none) (ha : Zb (frz (fun _ _ => none) depth) args = some args) :
 ∃ v, R v /\ ∀ (fn fr : Nat) (d : Option Nat) (H : Heap), pol.pure fn f = true -> callOp pol (Q5 P pol) fn fr d f args H = some (.ret v, H) := by
 obtain ⟨v, H', v', h1, h2, h3⟩ := h
 exact ⟨v', h3, fun fn fr d H hq => Qkq hp hq ha h1 h2⟩
theorem Kx {f : FuncId} {args : List V} {r : Rt × Heap} (hp : pol.prim f = none) (hq : pol.pure fn f = false) (ht : pol.thin fn f = false) (h : Q5 P pol f args H = some r) (hl : pol.lift fn f = false := by rfl) (hk : pol.look fn f = false := by rfl) : callOp pol (Q5 P pol) fn fr d f args H = some r := by
 simp only [callOp, hp, hq, hl, hk, Qdc, ht, Zkz, if_false, h]
theorem Qkj {f : FuncId} {args args' : List V} {r : Rt × Heap} (hp : pol.prim f = none) (hq : pol.pure fn f = false) (ht : pol.thin fn f = true) (ha : Zb (frz (fun _ _ => none) depth) args = some args') (h : Q5 P pol f args' H = some r) (hl : pol.lift fn f = false := by rfl) (hk : pol.look fn f = false := by rfl) :
 callOp pol (Q5 P pol) fn fr d f args H = some r := by
 simp only [callOp, hp, hq, hl, hk, Qdc, ht, if_true, ha, Zkz, if_false, h]
end
/-! ### A value that names no object freezes alike everywhere -/
theorem Qn0 (g g' : Get) : ∀ (n : Nat), (∀ v : V, v.refs (fun _ _ => true) = false -> frz g n v = frz g' n v)
 | 0 => fun _ _ => rfl
 | n + 1 => by
   have ih := Qn0 g g' n
   have ihL : ∀ l : List V, Qx (fun _ _ => true) l = false -> Zb (frz g n) l = Zb (frz g' n) l := by
    intro l
    induction l with
    | nil => intro _; rfl
    | cons x l ihl =>
      intro h
      simp only [Qx, Zm9] at h
      simp only [Zb, ih x h.1, ihl h.2]
   intro v h
   cases v with
   | ptr => simp [V.refs] at h
   | gS => simp [V.refs] at h
   | mS => simp [V.refs] at h
   | map => simp [V.refs] at h
   | func fn a b =>
     simp only [V.refs, Zm9] at h
     simp only [frz, ihL a h.1, ihL b h.2]
   | face t x => simp only [V.refs] at h; simp only [frz, ih x h]
   | agg cs => simp only [V.refs] at h; simp only [frz, ihL cs h]
   | tuple cs => simp only [V.refs] at h; simp only [frz, ihL cs h]
   | rptr cs o => simp only [V.refs] at h; simp only [frz, ihL cs h]
   | _ => rfl
theorem Q22 {p q : Nat -> Nat -> Bool} (h : ∀ a b, p a b = q a b) (v : V) : v.refs p = v.refs q := by
 have : p = q := by funext a b; exact h a b
 rw [this]
theorem Qur (v : V) (H : Heap) (n : Nat) : frz (Qb (B2 0 v H)) n v = frz (Qb H) n v := by
 unfold B2
 split
 . rename_i h
   simp only [Zlm, Zmh] at h
   apply Qn0
   rw [<- h.1]
   exact Q22 (fun a b => by simp) v
 . rfl
section
variable {P : Program} {pol : Pol}
def Zx (P : Program) (F : Func) (R : V -> Prop) (e : Ex) (t : List V) (H : Heap) : Prop := match e with
 | .normal | .ret => ∃ v v', Qa4 P F t H = some v /\ frz (Qb H) depth v = some v' /\ R v'
 | _ => False
theorem Zx.ret {F : Func} {R : V -> Prop} {t : List V} {H : Heap} {v v' : V} (h : Qa4 P F t H = some v) (h1 : frz (Qb H) depth v = some v') (h2 : R v') : Zx P F R .ret t H := ⟨v, v', h, h1, h2⟩
theorem Zx.normal {F : Func} {R : V -> Prop} {t : List V} {H : Heap} {v v' : V} (h : Qa4 P F t H = some v) (h1 : frz (Qb H) depth v = some v') (h2 : R v') : Zx P F R .normal t H := ⟨v, v', h, h1, h2⟩
theorem Jy {f : FuncId} {F : Func} {c : Code} {args : List V} {R : V -> Prop} (hF : P.funcs[f]? = some F) (hc : F.body = some c)
 (h : W (U P pol (Q5 P pol) Zv f 0 [.code c] .normal (args ++ List.replicate (F.ntmps - args.length) .bad) [[]]) (Zx P F R)) (hs : pol.settle f = [] := by rfl) : Fz P pol f args R := by
 apply Fz.of_cw
 refine Xk hF hc (h.mono ?_) hs
 intro e t H h
 cases e with
 | normal => obtain ⟨v, v', h1, h2, h3⟩ := h; exact ⟨v, h1, v, rfl, v', by rw [<- h2]; exact Qur v H depth, h3⟩
 | ret => obtain ⟨v, v', h1, h2, h3⟩ := h; exact ⟨v, h1, v, rfl, v', by rw [<- h2]; exact Qur v H depth, h3⟩
 | exit i => exact h.elim
 | panic v => exact h.elim
end
/-! ### Slices that no longer change -/
def Zq (esz : Nat) (v : V) (cells : List V) (n : Nat) : Prop := cells.length = n * esz /\ ((v = .nS /\ n = 0) \/ ∃ full, v = .iS cells n full)
theorem Zq.mk {esz : Nat} {cells : List V} {n : Nat} {full : Bool} (h : cells.length = n * esz) : Zq esz (.iS cells n full) cells n := ⟨h, .inr ⟨full, rfl⟩⟩
theorem Zq.nil {esz : Nat} : Zq esz .nS [] 0 := ⟨by simp, .inl ⟨rfl, rfl⟩⟩
section
variable {P : Program} {esz n : Nat} {v : V} {cells : List V} {u e : TypeId} {g : Get} {k : IntKind}
theorem Zq.frz (h : Zq esz v cells n) (m : Nat) : AM.frz g (m + 1) v = some v := by
 obtain ⟨_, ⟨rfl, _⟩ | ⟨f, rfl⟩⟩ := h <;> rfl
theorem Zq.len (hu : P.underlying u = some (.slice e)) (h : Zq esz v cells n) : ∀ g, Ka P g u v = some (.int .i64 n) := by
 intro g
 obtain ⟨_, ⟨rfl, rfl⟩ | ⟨f, rfl⟩⟩ := h
 . exact Qel hu
 . exact Bz hu _ _ _
theorem Zq.at (hu : P.underlying u = some (.slice e)) (hs : sz P e = some esz) (he : 0 < esz) (h : Zq esz v cells n) {i : Int} (h0 : 0 <= i) (hi : i < n) : Q9 P u v (.int k i) = some (.iptr cells (i.toNat * esz)) := by
 obtain ⟨hl, ⟨rfl, rfl⟩ | ⟨f, rfl⟩⟩ := h
 . omega
 . rw [ia_of hu hs, if_pos ⟨h0, hi, hl, he⟩]
theorem Zq.sc (h : Zq esz v cells n) : Qy g esz v = some (cells, n) := by
 obtain ⟨hl, ⟨rfl, rfl⟩ | ⟨f, rfl⟩⟩ := h
 . have : cells = [] := Zna (by simpa using hl)
   subst this; rfl
 . simp [Qy, hl]
theorem Zq.noRefs (h : Zq esz v cells n) (p : Nat -> Nat -> Bool) : v.refs p = false := by
 obtain ⟨_, ⟨rfl, _⟩ | ⟨f, rfl⟩⟩ := h <;> rfl
theorem Zq.pure (h : Zq esz v cells n) : v.pure = true := by
 obtain ⟨_, ⟨rfl, _⟩ | ⟨f, rfl⟩⟩ := h <;> rfl
end
theorem Q7h {cells : List V} {n esz : Nat} {full : Bool} (hl : cells.length = n * esz) (lo hi : Option Int) (h0 : 0 <= lo.getD 0) (h1 : lo.getD 0 <= hi.getD n) (h2 : hi.getD n <= n) :
 ∃ f, Qlg cells n full esz lo hi none = some (.iS ((cells.drop ((lo.getD 0).toNat * esz)).take (((hi.getD n).toNat - (lo.getD 0).toNat) * esz)) ((hi.getD n).toNat - (lo.getD 0).toNat) f) := by
 refine ⟨(full || (none : Option Int).isSome) && ((n : Int).toNat == (hi.getD n).toNat), ?_⟩
 simp only [Qlg, hl, if_true, B3, Znb]
 rw [if_pos ⟨by omega, by omega, by omega, by omega, h0, h1, by simp⟩]
theorem Zq.cut {P : Program} {esz n : Nat} {v : V} {cells : List V} {u e : TypeId} (hu : P.underlying u = some (.slice e)) (hs : sz P e = some esz) (h : Zq esz v cells n) (lo hi : Option Int)
 (h0 : 0 <= lo.getD 0) (h1 : lo.getD 0 <= hi.getD n) (h2 : hi.getD n <= n) :
 ∃ w, (∀ g, Z4 P g u v (lo.map (.int .i64)) (hi.map (.int .i64)) none = some w) /\ Zq esz w ((cells.drop ((lo.getD 0).toNat * esz)).take (((hi.getD n).toNat - (lo.getD 0).toNat) * esz)) ((hi.getD n).toNat - (lo.getD 0).toNat) := by
 have ol : Bb (lo.map (.int .i64)) = some lo := by cases lo <;> rfl
 have oh : Bb (hi.map (.int .i64)) = some hi := by cases hi <;> rfl
 have on : Bb none = some none := rfl
 obtain ⟨hl, ⟨rfl, rfl⟩ | ⟨f, rfl⟩⟩ := h
 . refine ⟨.nS, fun g => ?_, ?_⟩
   . simp only [Z4, ol, oh, on, hu, hs, B3]
     rw [if_pos ⟨by simp, by simp, by simp only [Int.natCast_zero] at *; omega, by simp at *; omega, h0, h1, by simp⟩]
   . have : cells = [] := Zna (by simpa using hl)
     subst this
     have e : (hi.getD (0 : Nat)).toNat - (lo.getD 0).toNat = 0 := by omega
     rw [e]
     exact ⟨by simp, .inl ⟨rfl, rfl⟩⟩
 . obtain ⟨f', e⟩ := Q7h (full := f) hl lo hi h0 h1 h2
   refine ⟨_, fun g => ?_, Zq.mk (full := f') ?_⟩
   . simp only [Z4, ol, oh, on, hu, hs]
     exact e
   . rw [Znc, Zm3, hl, <- Nat.sub_mul]
     apply Nat.min_eq_left
     apply Zm1
     omega
def Q1 (v : V) (l : List UInt8) : Prop := Zq 1 v (Qc l) l.length
theorem Z5 (l : List UInt8) : (Qc l).length = l.length := by simp [Qc]
theorem Qa6 (l : List UInt8) (i : Nat) : (Qc l)[i]? = (l[i]?).map fun b => .int .u8 b.toNat := by simp [Qc]
theorem Qd3 (l : List UInt8) (n : Nat) : (Qc l).take n = Qc (l.take n) := by simp [Qc]
theorem Qiy (l : List UInt8) (n : Nat) : (Qc l).drop n = Qc (l.drop n) := by simp [Qc]
theorem Yr (l m : List UInt8) : Qc (l ++ m) = Qc l ++ Qc m := by simp [Qc]
theorem Q1.mk (l : List UInt8) (full : Bool) : Q1 (.iS (Qc l) l.length full) l := Zq.mk (by simp [Z5])
theorem Q1.nil : Q1 .nS [] := Zq.nil
theorem Qbe : ∀ l : List UInt8, AM.bytesOf (Qc l) = some l
 | [] => rfl
 | b :: l => by
   have := Qbe l
   simp only [Qc, Zlh, AM.bytesOf] at this ⊢
   rw [this]
   simp
theorem Q1.bytesV {v : V} {l : List UInt8} {g : Get} (h : Q1 v l) : bytesV g v = some l := by
 have hc := Zq.sc (g := g) h
 obtain ⟨_, ⟨rfl, _⟩ | ⟨f, rfl⟩⟩ := h <;> simp only [AM.bytesV, hc, Qbe]
theorem Q1.cut {P : Program} {v : V} {l : List UInt8} {u e : TypeId} (hu : P.underlying u = some (.slice e)) (hs : sz P e = some 1) (h : Q1 v l) (lo hi : Option Int)
 (h0 : 0 <= lo.getD 0) (h1 : lo.getD 0 <= hi.getD l.length) (h2 : hi.getD l.length <= l.length) :
 ∃ w, (∀ g, Z4 P g u v (lo.map (.int .i64)) (hi.map (.int .i64)) none = some w) /\ Q1 w ((l.drop (lo.getD 0).toNat).take ((hi.getD l.length).toNat - (lo.getD 0).toNat)) := by
 obtain ⟨w, h3, h4⟩ := Zq.cut hu hs h lo hi h0 h1 h2
 refine ⟨w, h3, ?_⟩
 simp only [Zlx, Qiy, Qd3] at h4
 unfold Q1
 rwa [show ((l.drop (lo.getD 0).toNat).take ((hi.getD l.length).toNat - (lo.getD 0).toNat)).length = (hi.getD l.length).toNat - (lo.getD 0).toNat by rw [Znc, Zm3]; omega]
def Q3 (l : List Int) : List V := l.map fun i => .int .i64 i
def Bu (v : V) (l : List Int) : Prop := Zq 1 v (Q3 l) l.length
theorem Be (l : List Int) : (Q3 l).length = l.length := by simp [Q3]
theorem Qxs (l : List Int) (i : Nat) : (Q3 l)[i]? = (l[i]?).map fun b => .int .i64 b := by simp [Q3]
theorem Bu.mk (l : List Int) (full : Bool) : Bu (.iS (Q3 l) l.length full) l := Zq.mk (by simp [Be])
theorem Bu.nil : Bu .nS [] := Zq.nil
theorem Qax (l : List UInt8) : Qk (Qc l) = true := by
 induction l with
 | nil => rfl
 | cons b l ih => simp only [Qc, Zlh, Qk, V.pure, Zmv] at ih ⊢; exact ih
end Go.AM
end
section
namespace Go.AM.BM
def conA (g : Get) (args : List V) : Option (List V × Option (Nat × Nat × O)) := match args with
 | .agg [x, y] :: r => (Qgt g y).map fun z => (.agg [x, z.1] :: r, z.2)
 | l => some (l, none)
def Qo8 (K : List V -> Option V) : Prim := fun _ _ g args => match conA g args with
 | some (ys, w) => (match Zb (frz (fun _ _ => none) depth) ys with
   | some zs => (match K zs with
     | some v => some (v, w)
     | none => none)
   | none => none)
 | none => none
section
variable {P : Program} {E : Env} {B : Nat} {F : Nat -> Nat -> Prop} {H : Heap}
theorem Qw8 (S : Sim B F H E) {args ys : List V} {w : Option (Nat × Nat × O)} {cs : List Value} (h : conA (Qb H) args = some (ys, w)) (hr : Qf E args cs) :
 ∃ E', E'.w = E.w /\ Ext H.length B E E' /\ Sim B F (wr H w) E' /\ Qf E' ys cs := by
 unfold conA at h
 split at h
 . rename_i x y r
   cases hx : Qgt (Qb H) y with
   | none => rw [hx] at h; cases h
   | some z =>
     rw [hx] at h; cases h
     obtain ⟨u, us, rfl, h1, h2⟩ := Qf.cons_iff.1 hr
     simp only [Rel] at h1
     obtain ⟨vs, rfl, hl⟩ := h1
     obtain ⟨u1, us1, rfl, h3, h4⟩ := Qf.cons_iff.1 hl
     obtain ⟨u2, us2, rfl, h5, h6⟩ := Qf.cons_iff.1 h4
     obtain ⟨E', e, X, S', h7⟩ := Qdy S (v' := z.1) (w := z.2) hx h5
     refine ⟨E', e, X, S', .cons ?_ (Qf.mono X S.lt _ _ h2)⟩
     simp only [Rel]
     exact ⟨_, rfl, .cons (Rel.mono X S.lt _ _ h3) (.cons h7 (Qf.mono X S.lt _ _ h6))⟩
 . cases h; exact ⟨E, rfl, Ext.refl _ _ _, S, hr⟩
theorem Qh2 {polA : AM.Pol} (ok : AM.Okay P polA) {f : FuncId} {K : List V -> Option V} (hK : ∀ ys v, K ys = some v -> Fz P polA f ys (· = v)) (B : Nat) (F : Nat -> Nat -> Prop) (H : Heap) (E : Env) (fr : Nat) (dst : Option Nat) (args : List V) (cargs : List Value) (v : V) (x : Option (Nat × Nat × O))
 (S : Sim B F H E) (one : H.length = 1) (_ : fr = 0) (htab : E.tab = Qv P) (hr : Qf E args cargs) (h : Qo8 K fr dst (Qb H) args = some (v, x)) : Invokes P f ⟨cargs⟩ E.w (Answer B F H E (.ret v) (wr H x)) := by
 unfold Qo8 at h
 split at h
 case h_2 => cases h
 rename_i ys w hys
 split at h
 case h_2 => cases h
 rename_i zs hzs
 split at h
 case h_2 => cases h
 rename_i v' hv
 cases h
 obtain ⟨E', e, X, S', hr'⟩ := Qw8 S hys hr
 have htab' : E'.tab = Qv P := X.tab.trans htab
 obtain ⟨hr2, _⟩ := Qcq depth hzs hr'
 obtain ⟨v0, H1, v1, hc, hq, rfl⟩ := hK zs _ hv
 obtain ⟨hbody, hall⟩ := (Qgb ok).1 f zs [] _ H1 hc
 have hcall := hall _ _ (bare E'.tab E'.w E'.mod) cargs S'.bare htab' hr2
 rw [<- e]
 refine ok.invokes hbody (hcall.mono ?_)
 rintro en w' ⟨E1, rfl, ⟨c, rfl, hcv⟩, S1, X1, _⟩
 obtain ⟨X2, S2⟩ := S'.behind (E1 := E1) X1
 obtain ⟨h1, h2⟩ := S1.frz hq hcv
 rw [wr_length] at X2
 exact ⟨{ E' with w := E1.w }, rfl, ⟨c, rfl, Rel.dress (E := bare E1.tab E1.w E'.mod) (E' := { E' with w := E1.w }) rfl rfl _ _ h2 h1⟩, S2, (X.less (by omega) (Zk0 _)).trans (X2.less (by omega) (Zk0 _)), by rw [wr_length]; exact one⟩
theorem Q86 {G G' : Get} (h : GLe G G') {v v' : V} {w : Option (Nat × Nat × O)} (e : Qgt G v = some (v', w)) : Qgt G' v = some (v', w) /\ ∀ x ∈ w.toList, ∃ y, G x.1 x.2.1 = some y := by
 unfold Qgt at e ⊢
 split at e
 . rename_i f s o len cap esz
   split at e
   case h_2 => cases e
   rename_i xs hg
   split at e
   case isFalse => cases e
   rename_i hc
   cases e
   simp only [h f s _ hg]
   rw [if_pos hc]
   refine ⟨rfl, fun x hx => ?_⟩
   simp only [Option.toList, Zll] at hx
   subst hx; exact ⟨_, hg⟩
 . cases e; exact ⟨rfl, fun x hx => by cases hx⟩
theorem Qjo (K : List V -> Option V) (nm : Nat) (G G' : Get) (args : List V) (v : V) (w : Option (Nat × Nat × O)) (h : GLe G G') (e : Qo8 K 0 (some nm) G args = some (v, w)) :
 Qo8 K 0 (some nm) G' args = some (v, w) /\ ∀ x ∈ w.toList, (∃ y, G x.1 x.2.1 = some y) \/ (x.1 = 0 /\ x.2.1 = nm) := by
 have main : ∀ ys w, conA G args = some (ys, w) -> conA G' args = some (ys, w) /\ ∀ x ∈ w.toList, ∃ y, G x.1 x.2.1 = some y := by
  intro ys w hc
  unfold conA at hc ⊢
  split at hc
  . rename_i x y r
    cases hx : Qgt G y with
    | none => rw [hx] at hc; cases hc
    | some z =>
      rw [hx] at hc; cases hc
      obtain ⟨g1, g2⟩ := Q86 h (v' := z.1) (w := z.2) hx
      exact ⟨by simp only [g1, Zkw], g2⟩
  . cases hc; exact ⟨rfl, fun x hx => by cases hx⟩
 unfold Qo8 at e ⊢
 split at e
 case h_2 => cases e
 rename_i ys w' hys
 obtain ⟨g1, g2⟩ := main ys w' hys
 rw [g1]
 split at e
 case h_2 => cases e
 rename_i zs hzs
 split at e
 case h_2 => cases e
 rename_i v' hv
 cases e
 simp only [hzs, hv, true_and]
 exact fun x hx => .inl (g2 x hx)
end
end Go.AM.BM
end
section
namespace Go.AM.BM
def Q4r : V -> V
 | .func f [] [.ptr _ _ _] => .func f [] [.bad]
 | v => v
def Q2y : List V -> List V
 | x :: y :: r => x :: Q4r y :: r
 | l => l
def conQ (K : List V -> Option V) : Prim := fun fr dst g args => Qo8 K fr dst g (Q2y args)
section
variable {P : Program} {E : Env} {B : Nat} {F : Nat -> Nat -> Prop} {H : Heap}
theorem Q04 {v : V} {c : Value} (h : Rel E v c) : Rel E (Q4r v) c := by
 unfold Q4r
 split
 . simp only [Rel] at h ⊢
   obtain ⟨fs, cs, e, h1, h2⟩ := h
   obtain ⟨c1, r1, rfl, h3, h4⟩ := Qf.cons_iff.1 h2
   exact ⟨fs, _, e, h1, .cons (by simp [Rel]) h4⟩
 . exact h
theorem Q0w {args : List V} {cs : List Value} (h : Qf E args cs) : Qf E (Q2y args) cs := by
 unfold Q2y
 split
 . obtain ⟨c1, r1, rfl, h1, h2⟩ := Qf.cons_iff.1 h
   obtain ⟨c2, r2, rfl, h3, h4⟩ := Qf.cons_iff.1 h2
   exact .cons h1 (.cons (Q04 h3) h4)
 . exact h
theorem Qyf {polA : AM.Pol} (ok : AM.Okay P polA) {f : FuncId} {K : List V -> Option V} (hK : ∀ ys v, K ys = some v -> Fz P polA f ys (· = v)) (B : Nat) (F : Nat -> Nat -> Prop) (H : Heap) (E : Env) (fr : Nat) (dst : Option Nat) (args : List V) (cargs : List Value) (v : V) (x : Option (Nat × Nat × O))
 (S : Sim B F H E) (one : H.length = 1) (h0 : fr = 0) (htab : E.tab = Qv P) (hr : Qf E args cargs) (h : conQ K fr dst (Qb H) args = some (v, x)) : Invokes P f ⟨cargs⟩ E.w (Answer B F H E (.ret v) (wr H x)) :=
 Qh2 ok hK B F H E fr dst _ cargs v x S one h0 htab (Q0w hr) h
theorem Q15 (K : List V -> Option V) (nm : Nat) (G G' : Get) (args : List V) (v : V) (w : Option (Nat × Nat × O)) (h : GLe G G') (e : conQ K 0 (some nm) G args = some (v, w)) :
 conQ K 0 (some nm) G' args = some (v, w) /\ ∀ x ∈ w.toList, (∃ y, G x.1 x.2.1 = some y) \/ (x.1 = 0 /\ x.2.1 = nm) :=
 Qjo K nm G G' _ v w h e
end
end Go.AM.BM
end
section
namespace Go.AM.BM
section
variable {P : Program} {E : Env} {B : Nat} {F : Nat -> Nat -> Prop} {H : Heap}
theorem Qei {f : FuncId} {args : Array Value} {w : World} {v : V} {x : Option (Nat × Nat × O)} (one : H.length = 1) (h : AM.Invokes P f args w (AM.Answer B F H E (.ret v) (wr H x))) : Invokes P f args w (Answer B F H E (.ret v) (wr H x)) := by
 have key : ∀ e w', AM.Answer B F H E (.ret v) (wr H x) e w' -> Answer B F H E (.ret v) (wr H x) e w' := by
  rintro e w' ⟨E', h1, h2, h3, h4, h5⟩
  rw [one] at h4
  exact ⟨E', h1, h2, h3, h4, by rw [AM.wr_length]; exact one⟩
 rcases h with ⟨u, w', h1, h2⟩ | ⟨j, h1, h2⟩
 . exact .inl ⟨u, w', h1, key _ _ h2⟩
 . exact .inr ⟨j, h1, h2.mono key⟩
theorem Qgn {G G' : Get} (h : GLe G G') {x : V} {l : List UInt8} (e : bytesV G x = some l) : bytesV G' x = some l := by
 unfold bytesV at e ⊢
 split at e
 . exact e
 . rename_i y hy
   cases hs : Qy G 1 x with
   | none => rw [hs] at e; cases e
   | some q =>
     rw [hs] at e
     have hs' : Qy G' 1 x = some q := by
      exact Bm h hs
     rw [hs']; exact e
theorem Ql3 (nm : Nat) (G G' : Get) (args : List V) (v : V) (w : Option (Nat × Nat × O)) (h : GLe G G') (e : Ki 0 (some nm) G args = some (v, w)) :
 Ki 0 (some nm) G' args = some (v, w) /\ ∀ x ∈ w.toList, (∃ y, G x.1 x.2.1 = some y) \/ (x.1 = 0 /\ x.2.1 = nm) := by
 unfold Ki at e ⊢
 split at e
 case h_2 => cases e
 rename_i y c
 split at e
 case h_2 => cases e
 rename_i l hl
 cases e
 exact ⟨by simp only [Qgn h hl], fun x hx => by cases hx⟩
theorem Qhh (nm : Nat) (G G' : Get) (args : List V) (v : V) (w : Option (Nat × Nat × O)) (h : GLe G G') (e : Y7 0 (some nm) G args = some (v, w)) :
 Y7 0 (some nm) G' args = some (v, w) /\ ∀ x ∈ w.toList, (∃ y, G x.1 x.2.1 = some y) \/ (x.1 = 0 /\ x.2.1 = nm) := by
 unfold Y7 at e ⊢
 split at e
 case h_2 => cases e
 rename_i y c
 split at e
 case h_2 => cases e
 rename_i l hl
 cases e
 exact ⟨by simp only [Qgn h hl], fun x hx => by cases hx⟩
theorem Qjr (nm : Nat) (G G' : Get) (args : List V) (v : V) (w : Option (Nat × Nat × O)) (h : GLe G G') (e : Xt 0 (some nm) G args = some (v, w)) :
 Xt 0 (some nm) G' args = some (v, w) /\ ∀ x ∈ w.toList, (∃ y, G x.1 x.2.1 = some y) \/ (x.1 = 0 /\ x.2.1 = nm) := by
 unfold Xt at e ⊢
 split at e
 case h_2 => cases e
 rename_i y z
 split at e
 case h_2 => cases e
 rename_i l r hl hr
 cases e
 exact ⟨by simp only [Qgn h hl, Qgn h hr], fun x hx => by cases hx⟩
theorem Qoq (nm : Nat) (G G' : Get) (args : List V) (v : V) (w : Option (Nat × Nat × O)) (h : GLe G G') (hn : G' 0 nm = G 0 nm) (e : Qby 0 (some nm) G args = some (v, w)) :
 Qby 0 (some nm) G' args = some (v, w) /\ ∀ x ∈ w.toList, (∃ y, G x.1 x.2.1 = some y) \/ (x.1 = 0 /\ x.2.1 = nm) := by
 unfold Qby at e ⊢
 split at e
 case h_2 => cases e
 rename_i n d he
 cases he
 split at e
 case h_2 => cases e
 rename_i hg
 split at e
 case isFalse => cases e
 rename_i hc
 cases e
 refine ⟨by simp only [hn, hg]; rw [if_pos hc], fun x hx => ?_⟩
 simp only [Option.toList, Zll] at hx
 subst hx
 exact .inr ⟨rfl, rfl⟩
end
end Go.AM.BM
end
