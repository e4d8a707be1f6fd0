/- This file holds in one the texts An23, An24; each says at its head what it proves. -/
import Derived.Test.YteagpfbdmiihaaaGreatDoorT12
import Derived.Lib.BytesEntry
import Derived.Lib.MakeNoZero
set_option linter.unusedSimpArgs false
set_option linter.unusedVariables false
section
namespace Go.AM
def BLe (b b' : Kb) : Prop := ∀ t H r, b t H = some r -> b' t H = some r
def CLe (C C' : Call) : Prop := ∀ f a H r, C f a H = some r -> C' f a H = some r
inductive Qsr {α β : Type} (R : α -> β -> Prop) : List α -> List β -> Prop where
 | nil : Qsr R [] []
 | cons {x y l m} : R x y -> Qsr R l m -> Qsr R (x :: l) (y :: m)
def OLe (x y : Out) : Prop := ∀ r, x = some r -> y = some r
def MLe (b b' : Yx) : Prop := ∀ t H, Qsr OLe (b t H) (b' t H)
def LLe (L L' : Yx -> Kb) : Prop := ∀ b b', MLe b b' -> BLe (L b) (L' b')
theorem OLe.refl (x : Out) : OLe x x := fun _ h => h
theorem MLe.refl (b : Yx) : MLe b b := fun t H => by
 induction b t H with
 | nil => exact .nil
 | cons x l ih => exact .cons (OLe.refl x) ih
theorem Qyk {l l' : List Out} (h : Qsr OLe l l') : ∀ y ∈ l', ∃ x ∈ l, OLe x y := by
 induction h with
 | nil => intro y hy; cases hy
 | cons h1 _ ih =>
   intro y hy
   rcases Zli.1 hy with rfl | hy
   . exact ⟨_, Zlj, h1⟩
   . obtain ⟨x, hx, hxy⟩ := ih y hy
     exact ⟨x, Zlk _ hx, hxy⟩
theorem Qmx {l l' : List Out} (h : Qsr OLe l l') : OLe (Qcs l) (Qcs l') := by
 intro r hr
 obtain ⟨hne, hall⟩ := Qjw.1 hr
 refine Qdl ?_ fun y hy => ?_
 . rintro rfl
   cases h
   exact hne rfl
 . obtain ⟨x, hx, hxy⟩ := Qyk h y hy
   exact hxy _ (hall x hx)
theorem Qn2 {k k' : List V -> Heap -> Out} (hk : ∀ t H, OLe (k t H) (k' t H)) {x y : Out} (h : OLe x y) : OLe (after k x) (after k' y) := by
 intro r hr
 unfold after at hr
 split at hr
 . rename_i t H
   rw [h _ rfl]
   exact hk t H r hr
 . rename_i hne
   have hy := h r hr
   subst hr hy
   unfold after
   split
   . exact (hne _ _ (by assumption)).elim
   . rfl
theorem Qmy {f g : Out -> Out} {l l' : List Out} (hf : ∀ x y, OLe x y -> OLe (f x) (g y)) (h : Qsr OLe l l') : Qsr OLe (l.map f) (l'.map g) := by
 induction h with
 | nil => exact .nil
 | cons h1 _ ih => exact .cons (hf _ _ h1) ih
theorem Qv2 {α : Type} {f g : α -> Out} {l : List α} (hf : ∀ x, OLe (f x) (g x)) : Qsr OLe (l.map f) (l.map g) := by
 induction l with
 | nil => exact .nil
 | cons x l ih => exact .cons (hf x) ih
theorem most {α : Type} {l : List α} {p : α -> Nat -> Prop} (h : ∀ x ∈ l, ∃ n, ∀ m, n <= m -> p x m) : ∃ n, ∀ m, n <= m -> ∀ x ∈ l, p x m := by
 induction l with
 | nil => exact ⟨0, fun _ _ _ h => by cases h⟩
 | cons a l ih =>
   obtain ⟨n, hn⟩ := h a Zlj
   obtain ⟨k, hk⟩ := ih fun x hx => h x (Zlk _ hx)
   refine ⟨max n k, fun m hm x hx => ?_⟩
   rcases Zli.1 hx with rfl | hx
   . exact hn m (by omega)
   . exact hk m (by omega) x hx
section
variable {P : Program} {pol : Pol} {C C' : Call} {L L' : Yx -> Kb} {fn fr : Nat}
theorem Qci (hC : CLe C C') {dst : Option Nat} {f : FuncId} {args : List V} {H : Heap} {r : Rt × Heap} (h : callOp pol C fn fr dst f args H = some r) : callOp pol C' fn fr dst f args H = some r := by
 unfold callOp at h ⊢
 split
 . rename_i g hg; rw [hg] at h; exact h
 . rename_i hg
   rw [hg] at h
   simp only at h
   split
   . rename_i hp
     rw [if_pos hp] at h
     split
     . rename_i ys hys
       rw [hys] at h
       simp only at h
       cases hc : C f ys [] with
       | none => rw [hc] at h; cases h
       | some x => rw [hc] at h; rw [hC _ _ _ _ hc]; exact h
     . rename_i hys; rw [hys] at h; exact h
   . rename_i hp
     rw [if_neg hp] at h
     by_cases hl : pol.lift fn f = true
     . rw [if_pos hl] at h ⊢
       cases hys : Zb (frz (fun _ _ => none) depth) args with
       | none => rw [hys] at h; cases h
       | some ys =>
         rw [hys] at h
         simp only at h ⊢
         cases hc : C f ys [] with
         | none => rw [hc] at h; cases h
         | some x => rw [hc] at h; rw [hC _ _ _ _ hc]; exact h
     . rw [if_neg hl] at h ⊢
       by_cases hk : pol.look fn f = true
       . rw [if_pos hk] at h ⊢
         cases hys : Zb (frz (Qb H) depth) args with
         | none => rw [hys] at h; cases h
         | some ys =>
           rw [hys] at h
           simp only at h ⊢
           cases hc : C f ys [] with
           | none => rw [hc] at h; cases h
           | some x => rw [hc] at h; rw [hC _ _ _ _ hc]; exact h
       . rw [if_neg hk] at h ⊢
         cases ht : Qdc pol fn f args with
         | none => rw [ht] at h; cases h
         | some ys => rw [ht] at h; exact hC _ _ _ _ h
theorem Kq (hC : CLe C C') {t : List V} {H : Heap} {o : Oper} {r : Ex × List V × Heap} (h : Ze P pol C fn fr t H o = some r) : Ze P pol C' fn fr t H o = some r := by
 unfold Ze at h ⊢
 cases hev : Ql P (pol.mt fn) fr (Qb H) (rho t) o with
 | none => rw [hev] at h; cases h
 | some st =>
   rw [hev] at h
   cases st with
   | val v w => exact h
   | panic v => exact h
   | call f args =>
     simp only at h ⊢
     cases hc : callOp pol C fn fr o.dst f args H with
     | none => rw [hc] at h; cases h
     | some x => rw [hc] at h; rw [Qci hC hc]; exact h
   | round f s args =>
     simp only at h ⊢
     cases hc : C none (.yield f s :: args) H with
     | none => rw [hc] at h; cases h
     | some x => rw [hc] at h; rw [hC _ _ _ _ hc]; exact h
theorem J3 (hC : CLe C C') {ops : Array Oper} : ∀ (l : List Oper) (t : List V) (H : Heap) (r : Ex × List V × Heap), Zg P pol C fn fr ops l t H = some r -> Zg P pol C' fn fr ops l t H = some r
 | [], _, _, _, h => h
 | o :: l, t, H, r, h => by
   simp only [Zg] at h ⊢
   split
   . rename_i hw; rw [hw] at h; cases h
   . rename_i hw; rw [hw] at h; exact J3 hC l _ _ _ h
   . rename_i hw
     rw [hw] at h
     simp only at h
     cases hop : Ze P pol C fn fr t H o with
     | none => rw [hop] at h; cases h
     | some x =>
       rw [hop] at h
       rw [Kq hC hop]
       obtain ⟨e, t1, H1⟩ := x
       cases e with
       | normal => exact J3 hC l _ _ _ h
       | exit i => exact h
       | ret => exact h
       | panic v => exact h
theorem Y0 (hC : CLe C C') {ops : Array Oper} : ∀ (l : List Oper) (t : List V) (H : Heap) (r : List V × Heap × List FP), Q7 P pol C fn fr ops l t H = some r -> Q7 P pol C' fn fr ops l t H = some r
 | [], _, _, _, h => h
 | o :: l, t, H, r, h => by
   simp only [Q7] at h ⊢
   split
   . rename_i hw; rw [hw] at h; cases h
   . rename_i hw
     rw [hw] at h
     simp only at h
     cases hr : Q7 P pol C fn fr ops l (Qe t o.dst nov) H with
     | none => rw [hr] at h; cases h
     | some x => rw [hr] at h; rw [Y0 hC l _ _ _ hr]; exact h
   . rename_i hw
     rw [hw] at h
     simp only at h
     cases hop : Ze P pol C fn fr t H o with
     | none => rw [hop] at h; cases h
     | some x =>
       rw [hop] at h
       rw [Kq hC hop]
       obtain ⟨e, t1, H1⟩ := x
       cases e with
       | normal =>
         simp only at h ⊢
         cases hr : Q7 P pol C fn fr ops l t1 H1 with
         | none => rw [hr] at h; cases h
         | some y => rw [hr] at h; rw [Y0 hC l _ _ _ hr]; exact h
       | exit i => exact h
       | ret => exact h
       | panic v => exact h
theorem Ys (hC : CLe C C') (hL : LLe L L') : ∀ c : Code, BLe (Za P pol C L fn fr c) (Za P pol C' L' fn fr c) /\ ∀ v w, BLe (Z0 P pol C L fn fr c v w) (Z0 P pol C' L' fn fr c v w) := by
 intro c
 have no : ∀ {c : Code}, (∀ v w t H, Z0 P pol C L fn fr c v w t H = none) -> ∀ v w, BLe (Z0 P pol C L fn fr c v w) (Z0 P pol C' L' fn fr c v w) := fun h v w t H r hr => by rw [h] at hr; cases hr
 induction c with
 | skip => exact ⟨fun _ _ _ h => h, no fun _ _ _ _ => rfl⟩
 | region id ops draw =>
   refine ⟨fun t H r h => ?_, fun v w t H r h => ?_⟩
   . cases draw with
     | true =>
       simp only [Za, if_true] at h ⊢
       cases hr : Q7 P pol C fn fr ops ops.toList t H with
       | none => rw [hr] at h; cases h
       | some x => rw [hr] at h; rw [Y0 hC _ _ _ _ hr]; exact h
     | false =>
       simp only [Za, Zkz, if_false] at h ⊢
       exact J3 hC _ _ _ _ h
   . simp only [Z0] at h ⊢
     split
     . rename_i o l ho
       rw [ho] at h
       exact J3 hC _ _ _ _ h
     . rename_i ho
       rw [ho] at h; cases h
 | seq a b iha ihb =>
   refine ⟨fun t H r h => ?_, fun v w t H r h => ?_⟩
   . simp only [Za] at h ⊢
     cases hx : Za P pol C L fn fr a t H with
     | none => rw [hx] at h; cases h
     | some x =>
       rw [hx] at h
       rw [iha.1 _ _ _ hx]
       obtain ⟨e, t1, H1⟩ := x
       cases e with
       | normal => exact ihb.1 _ _ _ h
       | exit i => exact h
       | ret => exact h
       | panic v => exact h
   . simp only [Z0] at h ⊢
     cases hx : Z0 P pol C L fn fr a v w t H with
     | none => rw [hx] at h; cases h
     | some x =>
       rw [hx] at h
       rw [iha.2 v w _ _ _ hx]
       obtain ⟨e, t1, H1⟩ := x
       cases e with
       | normal => exact ihb.1 _ _ _ h
       | exit i => exact h
       | ret => exact h
       | panic v => exact h
 | cond c x y ihx ihy =>
   refine ⟨fun t H r h => ?_, no fun _ _ _ _ => rfl⟩
   simp only [Za] at h ⊢
   cases hc : rho t c with
   | bool b =>
     rw [hc] at h
     cases b with
     | true => exact ihx.1 _ _ _ h
     | false => exact ihy.1 _ _ _ h
   | _ => rw [hc] at h; cases h
 | block id b ih =>
   refine ⟨fun t H r h => ?_, no fun _ _ _ _ => rfl⟩
   simp only [Za] at h ⊢
   cases hx : Za P pol C L fn fr b t H with
   | none => rw [hx] at h; cases h
   | some x => rw [hx] at h; rw [ih.1 _ _ _ hx]; exact h
 | loop b ih =>
   refine ⟨fun t H r h => ?_, no fun _ _ _ _ => rfl⟩
   simp only [Za] at h ⊢
   refine hL _ _ ?_ _ _ _ h
   intro t H
   simp only
   split
   . split
     . exact .cons (fun r h => ih.1 _ _ _ h) .nil
     . split
       . exact Qv2 fun c r h => ih.2 c.1 c.2 _ _ _ h
       . exact .cons (OLe.refl _) .nil
   . exact .cons (OLe.refl _) .nil
 | rangeFunc g ps a b iha ihb =>
   refine ⟨fun t H r h => ?_, no fun _ _ _ _ => rfl⟩
   simp only [Za] at h ⊢
   split at h
   case h_2 => cases h
   rename_i f first cap hg
   split at h
   case h_2 => cases h
   rename_i hn
   split at h
   case h_2 => cases h
   rename_i v H2 hc
   rw [hC _ _ _ _ hc]
   exact h
 | _ => exact ⟨fun _ _ _ h => h, no fun _ _ _ _ => rfl⟩
theorem Qbw (hC : CLe C C') (hL : LLe L L') (c : Code) : BLe (Za P pol C L fn fr c) (Za P pol C' L' fn fr c) := (Ys hC hL c).1
theorem Qx2 (hC : CLe C C') (hL : LLe L L') : ∀ f args H r, Qaj P pol C L f args H = some r -> Qaj P pol C' L' f args H = some r := by
 intro f args H r h
 unfold Qaj at h ⊢
 cases hF : P.funcs[f]? with
 | none => rw [hF] at h; cases h
 | some F =>
   rw [hF] at h
   simp only at h ⊢
   cases hb : F.body with
   | none => rw [hb] at h; cases h
   | some c =>
     rw [hb] at h
     simp only at h ⊢
     cases hx : Za P pol C L f H.length c (args ++ List.replicate (F.ntmps - args.length) .bad) (H ++ [[]]) with
     | none => rw [hx] at h; cases h
     | some x => rw [hx] at h; rw [Qbw hC hL c _ _ _ hx]; exact h
theorem Qwx (hC : CLe C C') (hL : LLe L L') : ∀ fo so args H r, B6 P pol C L fo so args H = some r -> B6 P pol C' L' fo so args H = some r := by
 intro fo so args H r h
 unfold B6 at h ⊢
 split at h
 case h_2 => cases h
 rename_i pend fL rid t0 hg
 split at h
 case h_2 => cases h
 rename_i ps a b hl
 split at h
 case isFalse => cases h
 rename_i hlen
 rw [if_pos hlen]
 split at h
 case h_2 => cases h
 rename_i t1 H1 hx1
 rw [Qbw hC hL _ _ _ _ hx1]
 simp only
 split at h
 case h_2 => cases h
 rename_i pend1 fL1 rid1 t01 hg1
 split at h
 case h_2 => cases h
 rename_i e t2 H2 hx2
 rw [Qbw hC hL _ _ _ _ hx2]
 exact h
theorem Qhu (hC : CLe C C') (hL : LLe L L') : CLe (Qcg P pol C L) (Qcg P pol C' L') := by
 intro f args H r h
 cases f with
 | some f => exact Qx2 hC hL f args H r h
 | none =>
   simp only [Qcg] at h ⊢
   split at h
   . exact Qwx hC hL _ _ _ _ _ h
   . cases h
theorem Yd {b b' : Yx} (hb : MLe b b') : ∀ (n m : Nat), n <= m -> BLe (Zs b n) (Zs b' m)
 | 0, _, _ => fun _ _ _ h => by cases h
 | n + 1, 0, hm => by omega
 | n + 1, m + 1, hm => by
   intro t H r h
   simp only [Zs] at h ⊢
   exact Qmx (Qmy (fun x y hxy => Qn2 (fun t H r h => Yd hb n m (by omega) t H r h) hxy) (hb t H)) r h
theorem Jw : ∀ (n m : Nat), n <= m -> CLe (callN P pol n) (callN P pol m)
 | 0, _, _ => fun _ _ _ _ h => by cases h
 | n + 1, 0, hm => by omega
 | n + 1, m + 1, hm => Qhu (Jw n m (by omega)) fun b b' hb => Yd hb n m (by omega)
end
open Classical in
noncomputable def lim {α : Type} (f : Nat -> Option α) : Option α := if h : ∃ r n, f n = some r then some h.choose else none
theorem Quk {α : Type} {f : Nat -> Option α} {r : α} (hm : ∀ n m a, n <= m -> f n = some a -> f m = some a) : lim f = some r ↔ ∃ n, f n = some r := by
 unfold lim
 constructor
 . intro h
   split at h
   . rename_i hx; cases h; exact hx.choose_spec
   . cases h
 . rintro ⟨n, hn⟩
   have hx : ∃ r n, f n = some r := ⟨r, n, hn⟩
   rw [dif_pos hx]
   obtain ⟨k, hk⟩ := hx.choose_spec
   have h1 := hm _ (max n k) _ (Zlv _ _) hn
   have h2 := hm _ (max n k) _ (Zlw _ _) hk
   rw [h1] at h2
   exact congrArg some (Option.some.inj h2).symm
noncomputable def Zv (b : Yx) : Kb := fun t H => lim fun n => Zs b n t H
noncomputable def Q5 (P : Program) (pol : Pol) : Call := fun f args H => lim fun n => callN P pol n f args H
theorem Qd7 {b : Yx} {t : List V} {H : Heap} {r : Ex × List V × Heap} : Zv b t H = some r ↔ ∃ n, Zs b n t H = some r :=
 Quk fun n m _ hn h => Yd (MLe.refl b) n m hn _ _ _ h
theorem Qtl (b : Yx) (t : List V) (H : Heap) : Zv b t H = Qcs ((b t H).map (after (Zv b))) := by
 have hiff : ∀ r, Zv b t H = some r ↔ Qcs ((b t H).map (after (Zv b))) = some r := by
  intro r
  rw [Qd7]
  constructor
  . rintro ⟨n, hn⟩
    cases n with
    | zero => cases hn
    | succ n =>
      simp only [Zs] at hn
      exact Qmx (Qmy (fun x y hxy => Qn2 (fun t H r h => Qd7.2 ⟨n, h⟩) hxy) (MLe.refl b t H)) r hn
  . intro h
    obtain ⟨hne, hall⟩ := Qjw.1 h
    have : ∀ x ∈ b t H, ∃ n, ∀ m, n <= m -> after (Zs b m) x = some r := by
     intro x hx
     have h1 := hall _ (Zlo.2 ⟨x, hx, rfl⟩)
     unfold after at h1
     split at h1
     . rename_i t1 H1
       obtain ⟨n, hn⟩ := Qd7.1 h1
       exact ⟨n, fun m hm => Yd (MLe.refl b) n m hm _ _ _ hn⟩
     . rename_i hne1
       refine ⟨0, fun m _ => ?_⟩
       unfold after
       split
       . exact absurd rfl (hne1 _ _)
       . exact h1
    obtain ⟨n, hn⟩ := most this
    refine ⟨n + 1, ?_⟩
    simp only [Zs]
    refine Qdl (by simpa using hne) fun y hy => ?_
    obtain ⟨x, hx, rfl⟩ := Zlo.1 hy
    exact hn n (Zk0 n) x hx
 cases h1 : Zv b t H with
 | some r => exact ((hiff r).1 h1).symm
 | none =>
   cases h2 : Qcs ((b t H).map (after (Zv b))) with
   | none => rfl
   | some r => rw [(hiff r).2 h2] at h1; cases h1
theorem Q2a {b : Yx} {t : List V} {H : Heap} {x : Out} (h : b t H = [x]) : Zv b t H = after (Zv b) x := by
 rw [Qtl, h]; rfl
section
variable {P : Program} {pol : Pol} {fn fr : Nat}
theorem Yu {f : Option FuncId} {args : List V} {H : Heap} {r : Rt × Heap} : Q5 P pol f args H = some r ↔ ∃ n, callN P pol n f args H = some r :=
 Quk fun n m _ hn h => Jw n m hn _ _ _ _ h
theorem Qgb (ok : Okay P pol) : Z2 P (Q5 P pol) := by
 refine ⟨fun f args H r H' h => ?_, fun fo so rest H r H' h => ?_⟩
 . obtain ⟨n, hn⟩ := Yu.1 h
   exact (Xi ok n).1 f args H r H' hn
 . obtain ⟨n, hn⟩ := Yu.1 h
   exact (Xi ok n).2 fo so rest H r H' hn
theorem Qvv {dst : Option Nat} {f : FuncId} {args : List V} {H : Heap} {r : Rt × Heap} (h : callOp pol (Q5 P pol) fn fr dst f args H = some r) : ∃ n, callOp pol (callN P pol n) fn fr dst f args H = some r := by
 unfold callOp at h
 split at h
 . rename_i g hg; exact ⟨0, by simp only [callOp, hg]; exact h⟩
 . rename_i hg
   split at h
   . rename_i hp
     split at h
     . rename_i ys hys
       cases hc : Q5 P pol f ys [] with
       | none => rw [hc] at h; cases h
       | some x =>
         obtain ⟨n, hn⟩ := Yu.1 hc
         rw [hc] at h
         exact ⟨n, by simp only [callOp, hg, hp, if_true, hys, hn]; exact h⟩
     . cases h
   . rename_i hp
     by_cases hl : pol.lift fn f = true
     . rw [if_pos hl] at h
       cases hys : Zb (frz (fun _ _ => none) depth) args with
       | none => rw [hys] at h; cases h
       | some ys =>
         rw [hys] at h
         simp only at h
         cases hc : Q5 P pol f ys [] with
         | none => rw [hc] at h; cases h
         | some x =>
           obtain ⟨n, hn⟩ := Yu.1 hc
           rw [hc] at h
           exact ⟨n, by simp only [callOp, hg, hp, Zkz, if_false, hl, if_true, hys, hn]; exact h⟩
     . rw [if_neg hl] at h
       by_cases hk : pol.look fn f = true
       . rw [if_pos hk] at h
         cases hys : Zb (frz (Qb H) depth) args with
         | none => rw [hys] at h; cases h
         | some ys =>
           rw [hys] at h
           simp only at h
           cases hc : Q5 P pol f ys [] with
           | none => rw [hc] at h; cases h
           | some x =>
             obtain ⟨n, hn⟩ := Yu.1 hc
             rw [hc] at h
             exact ⟨n, by simp only [callOp, hg, hp, Zkz, if_false, hl, hk, if_true, hys, hn]; exact h⟩
       . rw [if_neg hk] at h
         cases ht : Qdc pol fn f args with
         | none => rw [ht] at h; cases h
         | some ys =>
           rw [ht] at h
           obtain ⟨n, hn⟩ := Yu.1 h
           exact ⟨n, by simp only [callOp, hg, hp, Zkz, if_false, hl, hk, ht, hn]⟩
theorem Qm1 {t : List V} {H : Heap} {o : Oper} {r : Ex × List V × Heap} (h : Ze P pol (Q5 P pol) fn fr t H o = some r) : ∃ n, Ze P pol (callN P pol n) fn fr t H o = some r := by
 unfold Ze at h
 cases hev : Ql P (pol.mt fn) fr (Qb H) (rho t) o with
 | none => rw [hev] at h; cases h
 | some st =>
   rw [hev] at h
   cases st with
   | val v w => exact ⟨0, by simp only [Ze, hev]; exact h⟩
   | panic v => exact ⟨0, by simp only [Ze, hev]; exact h⟩
   | call f args =>
     simp only at h
     cases hc : callOp pol (Q5 P pol) fn fr o.dst f args H with
     | none => rw [hc] at h; cases h
     | some x =>
       obtain ⟨n, hn⟩ := Qvv hc
       rw [hc] at h
       exact ⟨n, by simp only [Ze, hev, hn]; exact h⟩
   | round f s args =>
     simp only at h
     cases hc : Q5 P pol none (.yield f s :: args) H with
     | none => rw [hc] at h; cases h
     | some x =>
       obtain ⟨n, hn⟩ := Yu.1 hc
       rw [hc] at h
       exact ⟨n, by simp only [Ze, hev, hn]; exact h⟩
theorem Qcl {ops : Array Oper} : ∀ (l : List Oper) (t : List V) (H : Heap) (r : Ex × List V × Heap), Zg P pol (Q5 P pol) fn fr ops l t H = some r -> ∃ n, Zg P pol (callN P pol n) fn fr ops l t H = some r
 | [], _, _, _, h => ⟨0, h⟩
 | o :: l, t, H, r, h => by
   simp only [Zg] at h
   split at h
   . cases h
   . rename_i hw
     obtain ⟨n, hn⟩ := Qcl l _ _ _ h
     exact ⟨n, by simp only [Zg, hw]; exact hn⟩
   . rename_i hw
     cases hop : Ze P pol (Q5 P pol) fn fr t H o with
     | none => rw [hop] at h; cases h
     | some x =>
       rw [hop] at h
       obtain ⟨n, hn⟩ := Qm1 hop
       obtain ⟨e, t1, H1⟩ := x
       cases e with
       | normal =>
         simp only at h
         obtain ⟨m, hm⟩ := Qcl l _ _ _ h
         refine ⟨max n m, ?_⟩
         simp only [Zg, hw]
         rw [Kq (Jw n (max n m) (Zlv _ _)) hn]
         exact J3 (Jw m (max n m) (Zlw _ _)) l _ _ _ hm
       | exit i => exact ⟨n, by simp only [Zg, hw, hn]; exact h⟩
       | ret => exact ⟨n, by simp only [Zg, hw, hn]; exact h⟩
       | panic v => exact ⟨n, by simp only [Zg, hw, hn]; exact h⟩
theorem Qdv {ops : Array Oper} : ∀ (l : List Oper) (t : List V) (H : Heap) (r : List V × Heap × List FP), Q7 P pol (Q5 P pol) fn fr ops l t H = some r -> ∃ n, Q7 P pol (callN P pol n) fn fr ops l t H = some r
 | [], _, _, _, h => ⟨0, h⟩
 | o :: l, t, H, r, h => by
   simp only [Q7] at h
   split at h
   . cases h
   . rename_i hw
     cases hr : Q7 P pol (Q5 P pol) fn fr ops l (Qe t o.dst nov) H with
     | none => rw [hr] at h; cases h
     | some x =>
       rw [hr] at h
       obtain ⟨n, hn⟩ := Qdv l _ _ _ hr
       exact ⟨n, by simp only [Q7, hw, hn]; exact h⟩
   . rename_i hw
     cases hop : Ze P pol (Q5 P pol) fn fr t H o with
     | none => rw [hop] at h; cases h
     | some x =>
       rw [hop] at h
       obtain ⟨n, hn⟩ := Qm1 hop
       obtain ⟨e, t1, H1⟩ := x
       cases e with
       | normal =>
         simp only at h
         cases hr : Q7 P pol (Q5 P pol) fn fr ops l t1 H1 with
         | none => rw [hr] at h; cases h
         | some y =>
           rw [hr] at h
           obtain ⟨m, hm⟩ := Qdv l _ _ _ hr
           refine ⟨max n m, ?_⟩
           simp only [Q7, hw]
           rw [Kq (Jw n (max n m) (Zlv _ _)) hn]
           simp only
           rw [Y0 (Jw m (max n m) (Zlw _ _)) l _ _ _ hm]
           exact h
       | exit i => cases h
       | ret => cases h
       | panic v => cases h
theorem Qxp : ∀ (c : Code), (∀ (t : List V) (H : Heap) (r : Ex × List V × Heap), Za P pol (Q5 P pol) Zv fn fr c t H = some r ->
 ∃ n, Za P pol (callN P pol n) (fun b => Zs b n) fn fr c t H = some r) /\
 ∀ v w (t : List V) (H : Heap) (r : Ex × List V × Heap), Z0 P pol (Q5 P pol) Zv fn fr c v w t H = some r -> ∃ n, Z0 P pol (callN P pol n) (fun b => Zs b n) fn fr c v w t H = some r := by
 have up : ∀ (c : Code) (n m : Nat), n <= m -> BLe (Za P pol (callN P pol n) (fun b => Zs b n) fn fr c) (Za P pol (callN P pol m) (fun b => Zs b m) fn fr c) :=
  fun c n m hn => Qbw (Jw n m hn) (fun b b' hb => Yd hb n m hn) c
 have upF : ∀ (c : Code) (n m : Nat) v w, n <= m -> BLe (Z0 P pol (callN P pol n) (fun b => Zs b n) fn fr c v w) (Z0 P pol (callN P pol m) (fun b => Zs b m) fn fr c v w) :=
  fun c n m v w hn => (Ys (Jw n m hn) (fun b b' hb => Yd hb n m hn) c).2 v w
 have no : ∀ {c : Code}, (∀ v w t H, Z0 P pol (Q5 P pol) Zv fn fr c v w t H = none) -> ∀ v w (t : List V) (H : Heap) (r : Ex × List V × Heap), Z0 P pol (Q5 P pol) Zv fn fr c v w t H = some r ->
  ∃ n, Z0 P pol (callN P pol n) (fun b => Zs b n) fn fr c v w t H = some r := fun h v w t H r hr => by rw [h] at hr; cases hr
 intro c
 induction c with
 | skip => exact ⟨fun _ _ _ h => ⟨0, h⟩, no fun _ _ _ _ => rfl⟩
 | region id ops draw =>
   refine ⟨fun t H r h => ?_, fun v w t H r h => ?_⟩
   . cases draw with
     | true =>
       simp only [Za, if_true] at h ⊢
       cases hr : Q7 P pol (Q5 P pol) fn fr ops ops.toList t H with
       | none => rw [hr] at h; cases h
       | some x =>
         rw [hr] at h
         obtain ⟨n, hn⟩ := Qdv _ _ _ _ hr
         exact ⟨n, by rw [hn]; exact h⟩
     | false =>
       simp only [Za, Zkz, if_false] at h ⊢
       exact Qcl _ _ _ _ h
   . simp only [Z0] at h ⊢
     cases ho : ops.toList with
     | nil => rw [ho] at h; cases h
     | cons o l => rw [ho] at h; exact Qcl _ _ _ _ h
 | seq a b iha ihb =>
   refine ⟨fun t H r h => ?_, fun v w t H r h => ?_⟩
   . simp only [Za] at h ⊢
     cases hx : Za P pol (Q5 P pol) Zv fn fr a t H with
     | none => rw [hx] at h; cases h
     | some x =>
       rw [hx] at h
       obtain ⟨n, hn⟩ := iha.1 _ _ _ hx
       obtain ⟨e, t1, H1⟩ := x
       cases e with
       | normal =>
         obtain ⟨m, hm⟩ := ihb.1 _ _ _ h
         refine ⟨max n m, ?_⟩
         rw [up a n (max n m) (Zlv _ _) _ _ _ hn]
         exact up b m (max n m) (Zlw _ _) _ _ _ hm
       | exit i => exact ⟨n, by rw [hn]; exact h⟩
       | ret => exact ⟨n, by rw [hn]; exact h⟩
       | panic v => exact ⟨n, by rw [hn]; exact h⟩
   . simp only [Z0] at h ⊢
     cases hx : Z0 P pol (Q5 P pol) Zv fn fr a v w t H with
     | none => rw [hx] at h; cases h
     | some x =>
       rw [hx] at h
       obtain ⟨n, hn⟩ := iha.2 v w _ _ _ hx
       obtain ⟨e, t1, H1⟩ := x
       cases e with
       | normal =>
         obtain ⟨m, hm⟩ := ihb.1 _ _ _ h
         refine ⟨max n m, ?_⟩
         rw [upF a n (max n m) v w (Zlv _ _) _ _ _ hn]
         exact up b m (max n m) (Zlw _ _) _ _ _ hm
       | exit i => exact ⟨n, by rw [hn]; exact h⟩
       | ret => exact ⟨n, by rw [hn]; exact h⟩
       | panic v => exact ⟨n, by rw [hn]; exact h⟩
 | cond c x y ihx ihy =>
   refine ⟨fun t H r h => ?_, no fun _ _ _ _ => rfl⟩
   simp only [Za] at h ⊢
   cases hc : rho t c with
   | bool b =>
     rw [hc] at h
     cases b with
     | true => exact ihx.1 _ _ _ h
     | false => exact ihy.1 _ _ _ h
   | _ => rw [hc] at h; cases h
 | block id b ih =>
   refine ⟨fun t H r h => ?_, no fun _ _ _ _ => rfl⟩
   simp only [Za] at h ⊢
   cases hx : Za P pol (Q5 P pol) Zv fn fr b t H with
   | none => rw [hx] at h; cases h
   | some x =>
     rw [hx] at h
     obtain ⟨n, hn⟩ := ih.1 _ _ _ hx
     exact ⟨n, by rw [hn]; exact h⟩
 | loop b ih =>
   refine ⟨fun t H r h => ?_, no fun _ _ _ _ => rfl⟩
   simp only [Za] at h ⊢
   obtain ⟨k, hk⟩ := Qd7.1 h
   have : ∀ (k : Nat) t H r, Zs (fun t H => match forget pol fn fr (Zp b) t H with
    | some (t, H) => (match Zt b with
      | none => [Za P pol (Q5 P pol) Zv fn fr b t H]
      | some x => (match Yt (Qb H) (rho t x) with
        | some cs => cs.map fun c => Z0 P pol (Q5 P pol) Zv fn fr b c.1 c.2 t H
        | none => [none]))
    | none => [none]) k t H = some r -> ∃ n, ∀ m, n <= m -> Zs (fun t H => match forget pol fn fr (Zp b) t H with
    | some (t, H) => (match Zt b with
      | none => [Za P pol (callN P pol m) (fun b => Zs b m) fn fr b t H]
      | some x => (match Yt (Qb H) (rho t x) with
        | some cs => cs.map fun c => Z0 P pol (callN P pol m) (fun b => Zs b m) fn fr b c.1 c.2 t H
        | none => [none]))
    | none => [none]) k t H = some r := by
    intro k
    induction k with
    | zero => intro t H r h; cases h
    | succ k ihk =>
      intro t H r h
      simp only [Zs] at h ⊢
      have one : ∀ (W : Out) (N : Nat -> Out), (∀ y, W = some y -> ∃ n, ∀ m, n <= m -> N m = some y) -> after (Zs (fun t H => match forget pol fn fr (Zp b) t H with
       | some (t, H) => (match Zt b with
         | none => [Za P pol (Q5 P pol) Zv fn fr b t H]
         | some x => (match Yt (Qb H) (rho t x) with
           | some cs => cs.map fun c => Z0 P pol (Q5 P pol) Zv fn fr b c.1 c.2 t H
           | none => [none]))
       | none => [none]) k) W = some r -> ∃ n, ∀ m, n <= m -> after (Zs (fun t H => match forget pol fn fr (Zp b) t H with
       | some (t, H) => (match Zt b with
         | none => [Za P pol (callN P pol m) (fun b => Zs b m) fn fr b t H]
         | some x => (match Yt (Qb H) (rho t x) with
           | some cs => cs.map fun c => Z0 P pol (callN P pol m) (fun b => Zs b m) fn fr b c.1 c.2 t H
           | none => [none]))
       | none => [none]) k) (N m) = some r := by
       intro W N hWN hW
       cases W with
       | none => cases hW
       | some y =>
         obtain ⟨n, hn⟩ := hWN y rfl
         obtain ⟨e, t1, H1⟩ := y
         cases e with
         | normal =>
           obtain ⟨m, hm⟩ := ihk _ _ _ hW
           refine ⟨max n m, fun q hq => ?_⟩
           rw [hn q (by omega)]
           exact hm q (by omega)
         | exit i => exact ⟨n, fun q hq => by rw [hn q hq]; exact hW⟩
         | ret => exact ⟨n, fun q hq => by rw [hn q hq]; exact hW⟩
         | panic v => exact ⟨n, fun q hq => by rw [hn q hq]; exact hW⟩
      cases hf : forget pol fn fr (Zp b) t H with
      | none => rw [hf] at h; cases h
      | some x =>
        rw [hf] at h
        simp only at h ⊢
        cases hd : Zt b with
        | none =>
          rw [hd] at h one
          simp only [Zlh, List.map_nil, Q17] at h ⊢
          exact one _ (fun m => Za P pol (callN P pol m) (fun b => Zs b m) fn fr b x.1 x.2) (fun y hy => by
           obtain ⟨n, hn⟩ := ih.1 _ _ _ hy
           exact ⟨n, fun m hm => up b n m hm _ _ _ hn⟩) h
        | some z =>
          rw [hd] at h one
          simp only at h ⊢
          cases hc : Yt (Qb x.2) (rho x.1 z) with
          | none => rw [hc] at h; cases h
          | some cs =>
            rw [hc] at h
            simp only [List.map_map] at h ⊢
            obtain ⟨hne, hall⟩ := Qjw.1 h
            obtain ⟨n, hn⟩ := most (l := cs) (p := fun c m => after _ (Z0 P pol (callN P pol m) (fun b => Zs b m) fn fr b c.1 c.2 x.1 x.2) = some r) (fun c hc' => by
             exact one _ (fun m => Z0 P pol (callN P pol m) (fun b => Zs b m) fn fr b c.1 c.2 x.1 x.2) (fun y hy => by
              obtain ⟨n, hn⟩ := ih.2 _ _ _ _ _ hy
              exact ⟨n, fun m hm => upF b n m _ _ hm _ _ _ hn⟩) (hall _ (Zlo.2 ⟨c, hc', rfl⟩)))
            refine ⟨n, fun m hm => Qdl (by simpa using hne) fun y hy => ?_⟩
            obtain ⟨c, hc', rfl⟩ := Zlo.1 hy
            exact hn m hm c hc'
   obtain ⟨n, hn⟩ := this k t H r hk
   refine ⟨max n k, ?_⟩
   exact Yd (MLe.refl _) k (max n k) (Zlw _ _) _ _ _ (hn (max n k) (Zlv _ _))
 | rangeFunc g ps a b iha ihb =>
   refine ⟨?_, no fun _ _ _ _ => rfl⟩
   intro t H r h
   simp only [Za] at h
   split at h
   case h_2 => cases h
   rename_i f first cap hg
   split at h
   case h_2 => cases h
   rename_i hn
   split at h
   case h_2 => cases h
   rename_i v H2 hc
   obtain ⟨n, hn'⟩ := Yu.1 hc
   refine ⟨n, ?_⟩
   simp only [Za, hg, hn, hn']
   exact h
 | _ =>
   refine ⟨?_, no fun _ _ _ _ => rfl⟩
   intro t H r h
   cases h <;> exact ⟨0, rfl⟩
theorem Qjv (c : Code) (t : List V) (H : Heap) (r : Ex × List V × Heap) (h : Za P pol (Q5 P pol) Zv fn fr c t H = some r) :
 ∃ n, Za P pol (callN P pol n) (fun b => Zs b n) fn fr c t H = some r := (Qxp c).1 t H r h
theorem Q5h {f : FuncId} {args : List V} {H : Heap} {r : Rt × Heap} (h : Qcg P pol (Q5 P pol) Zv f args H = some r) : Q5 P pol f args H = some r := by
 have : ∃ n, Qcg P pol (callN P pol n) (fun b => Zs b n) f args H = some r := by
  simp only [Qcg] at h ⊢
  unfold Qaj at h ⊢
  cases hF : P.funcs[f]? with
  | none => rw [hF] at h; cases h
  | some F =>
    rw [hF] at h
    simp only at h ⊢
    cases hb : F.body with
    | none => rw [hb] at h; cases h
    | some c =>
      rw [hb] at h
      simp only at h ⊢
      cases hx : Za P pol (Q5 P pol) Zv f H.length c (args ++ List.replicate (F.ntmps - args.length) .bad) (H ++ [[]]) with
      | none => rw [hx] at h; cases h
      | some x =>
        rw [hx] at h
        obtain ⟨n, hn⟩ := Qjv c _ _ _ hx
        exact ⟨n, by rw [hn]; exact h⟩
 obtain ⟨n, hn⟩ := this
 exact Yu.2 ⟨n + 1, hn⟩
theorem Qvt {fo so : Nat} {args : List V} {H : Heap} {r : Rt × Heap} (h : B6 P pol (Q5 P pol) Zv fo so args H = some r) : Q5 P pol none (.yield fo so :: args) H = some r := by
 have : ∃ n, B6 P pol (callN P pol n) (fun b => Zs b n) fo so args H = some r := by
  unfold B6 at h
  split at h
  case h_2 => cases h
  rename_i pend fL rid t0 hg
  split at h
  case h_2 => cases h
  rename_i ps a b hl
  split at h
  case isFalse => cases h
  rename_i hlen
  split at h
  case h_2 => cases h
  rename_i t1 H1 hx1
  split at h
  case h_2 => cases h
  rename_i pend1 fL1 rid1 t01 hg1
  split at h
  case h_2 => cases h
  rename_i e t2 H2 hx2
  obtain ⟨n1, h1⟩ := Qjv _ _ _ _ hx1
  obtain ⟨n2, h2⟩ := Qjv _ _ _ _ hx2
  have m1 := Qbw (Jw (P := P) (pol := pol) n1 (max n1 n2) (Zlv _ _)) (fun b b' hb => Yd hb n1 (max n1 n2) (Zlv _ _)) _ _ _ _ h1
  have m2 := Qbw (Jw (P := P) (pol := pol) n2 (max n1 n2) (Zlw _ _)) (fun b b' hb => Yd hb n2 (max n1 n2) (Zlw _ _)) _ _ _ _ h2
  refine ⟨max n1 n2, ?_⟩
  unfold B6
  simp only [hg, hl, if_pos hlen, m1, hg1, m2]
  exact h
 obtain ⟨n, hn⟩ := this
 exact Yu.2 ⟨n + 1, hn⟩
end
end Go.AM
end
section
namespace Go.AM
def bytesV (g : Get) : V -> Option (List UInt8)
 | .str s => some s
 | x => match Qy g 1 x with
   | some (cs, _) => bytesOf cs
   | none => none
abbrev Prim := Nat -> Option Nat -> Get -> List V -> Option (V × Option (Nat × Nat × O))
def Ki : Prim := fun _ _ g as => match as with
 | [x, .int .u8 c] => (match bytesV g x with
   | some l => some (.int .i64 (Lib.countByte l c.toNat.toUInt8 : Nat), none)
   | none => none)
 | _ => none
def Y7 : Prim := fun _ _ g as => match as with
 | [x, .int .u8 c] => (match bytesV g x with
   | some l => some (.int .i64 (Lib.indexByte l c.toNat.toUInt8), none)
   | none => none)
 | _ => none
def Xt : Prim := fun _ _ g as => match as with
 | [x, y] => (match bytesV g x, bytesV g y with
   | some l, some r => some (.int .i64 (Lib.compareBytes l r), none)
   | _, _ => none)
 | _ => none
def Qby : Prim := fun fr dst g as => match as, dst with
 | [.int .i64 n], some d => (match g fr d with
   | none => if 0 <= n /\ n <= 281474976710656 then some (.mS fr d 0 n.toNat none 1, some (fr, d, .cells (List.replicate n.toNat .byte))) else none
   | some _ => none)
 | _, _ => none
section
variable {P : Program} {E : Env} {B : Nat} {F : Nat -> Nat -> Prop} {H : Heap}
structure Kh (P : Program) (f : FuncId) (e : Array Value -> Sem Value) : Prop where
 at_ : ∃ fn, P.funcs[f]? = some fn /\ (fn.name == "runtime.NumGoroutine") = false /\ fn.body.isNone = true /\ Extern.findNext fn = none /\ Extern.find fn = some e
theorem Kh.run {f : FuncId} {e : Array Value -> Sem Value} (h : Kh P f e) {args : Array Value} {w w' : World} {v : Value} (hr : (e args).run P w = .ok v w') :
 (callFunc f args).run P w = .ok (.value v) w' := by
 obtain ⟨fn, h1, h2, h3, h4, h5⟩ := h.at_
 rw [run_callFunc_extern h1 h2 h3 h4 h5, hr]; rfl
theorem Kh.plain {f : FuncId} {e : Array Value -> Sem Value} (h : Kh P f e) (S : Sim B F H E) {cargs : List Value} {v : V} {c : Value} (hr : (e ⟨cargs⟩).run P E.w = .ok c E.w) (hv : Rel E v c) :
 Invokes P f ⟨cargs⟩ E.w (Answer B F H E (.ret v) H) :=
 .inl ⟨c, E.w, h.run hr, E, rfl, ⟨c, rfl, hv⟩, S, Ext.refl _ _ _, Zk0 _⟩
theorem Qo0 (S : Sim B F H E) {esz n : Nat} {x : V} {cs : List V} {c : Value} (h : Qy (Qb H) esz x = some (cs, n)) (hr : Rel E x c) :
 ∃ a cap vs, c = .slice a n cap /\ Qf E cs vs /\ vs.length = n * esz /\ (vs = [] \/ ∃ b off, a = some ⟨b, off, none⟩ /\ Qc3 E.w b off vs) := by
 unfold Qy at h
 split at h
 . cases h
   simp only [Rel] at hr
   subst hr
   exact ⟨none, 0, [], rfl, .nil, by simp, .inl rfl⟩
 . split at h
   . rename_i hl
     cases h
     simp only [Rel] at hr
     obtain ⟨a, cap, vs, rfl, h1, _, h3, h4, _⟩ := hr
     refine ⟨some a, cap, vs, rfl, h4, by rw [<- h4.length]; exact hl, ?_⟩
     rcases h3 with rfl | ⟨h3, h5⟩
     . exact .inl rfl
     . obtain ⟨b, off, sp⟩ := a
       simp only at h3; subst h3
       exact .inr ⟨b, off, rfl, h5.lies⟩
   . cases h
 . split at h
   . rename_i he
     cases h
     subst he
     simp only [Rel] at hr
     obtain ⟨b, off, cap, vs, rfl, h1, h3, h4, h5, _⟩ := hr
     exact ⟨_, cap, vs, rfl, h4, h4.length.symm.trans h5, .inr ⟨b, off, rfl, h3.lies⟩⟩
   . cases h
 . rename_i f s o n' cap e
   split at h
   . rename_i xs hg
     split at h
     . rename_i hh
       obtain ⟨rfl, hle⟩ := hh
       cases h
       simp only [Rel] at hr
       obtain ⟨b, c', T, sz', hmu, rfl, h1, _, _, _⟩ := hr
       obtain ⟨b2, cc, T2, vs, rest, g1, _, _, _, g5, _, _, g8⟩ := S.lies hg
       rw [hmu] at g1; cases g1
       have hvl : ((vs.drop o).take (n * e)).length = n * e := by
        have := g5.length
        simp; omega
       exact ⟨_, c', _, rfl, (g5.drop o).take _, hvl, .inr ⟨b, o, rfl, g8.from o _⟩⟩
     . cases h
   . cases h
 . cases h
theorem Qkw : ∀ {cs : List V} {l : List UInt8} {vs : List Value}, bytesOf cs = some l -> Qf E cs vs -> ∃ xs : List Int, vs = xs.map (fun x => .int .u8 x) /\ Lib.bytesOf xs = l
 | [], l, vs, h, hr => by
   cases h
   rw [Qf.nil_iff] at hr
   subst hr
   exact ⟨[], rfl, rfl⟩
 | c :: cs, l, vs, h, hr => by
   obtain ⟨v, r, rfl, h1, h2⟩ := Qf.cons_iff.1 hr
   unfold bytesOf at h
   split at h
   . rename_i heq; cases heq
   . rename_i n r' heq
     cases heq
     cases hb : bytesOf cs with
     | none => rw [hb] at h; cases h
     | some l' =>
       rw [hb] at h
       cases h
       obtain ⟨xs, rfl, rfl⟩ := Qkw hb h2
       simp only [Rel] at h1
       subst h1
       exact ⟨n :: xs, rfl, rfl⟩
   . cases h
theorem Qbr (S : Sim B F H E) {x : V} {l : List UInt8} {c : Value} (h : bytesV (Qb H) x = some l) (hr : Rel E x c) : ∃ s : ByteArray, s.data.toList = l /\ (Extern.Bytes.bytesOf c).run P E.w = .ok s E.w := by
 unfold bytesV at h
 split at h
 . cases h
   simp only [Rel] at hr
   subst hr
   exact ⟨_, rfl, rfl⟩
 . split at h
   case h_2 => cases h
   rename_i cs n hs
   obtain ⟨a, cap, vs, rfl, h1, h2, h3⟩ := Qo0 S hs hr
   obtain ⟨xs, rfl, rfl⟩ := Qkw h h1
   simp only [List.length_map, Zlx] at h2
   subst h2
   cases a with
   | none =>
     refine ⟨.empty, ?_, rfl⟩
     rcases h3 with h3 | ⟨b, off, h3, _⟩
     . simp only [List.map_eq_nil_iff] at h3; subst h3; rfl
     . cases h3
   | some a =>
     have hc : ∀ j x, xs[j]? = some x -> E.w.cell? (a.add j) = some (.int .u8 x) := by
      intro j x hj
      rcases h3 with h3 | ⟨b, off, h3, h4⟩
      . simp only [List.map_eq_nil_iff] at h3; subst h3; cases hj
      . cases h3
        have e : (⟨b, off, none⟩ : Addr).add j = ⟨b, off + j, none⟩ := by unfold Addr.add; split <;> simp_all
        rw [e]
        exact h4 j (.int .u8 x) (by simp [hj])
     refine ⟨_, ?_, Lib.run_loadBytesX (P := P) E.w xs a .empty hc⟩
     simp
theorem sound_count {f : FuncId} (hx : Kh P f Extern.BytealgCount.count) (S : Sim B F H E) {fr : Nat} {dst : Option Nat} {args : List V} {cargs : List Value} {v : V} {x : Option (Nat × Nat × O)}
 (hr : Qf E args cargs) (h : Ki fr dst (Qb H) args = some (v, x)) : Invokes P f ⟨cargs⟩ E.w (Answer B F H E (.ret v) (wr H x)) := by
 unfold Ki at h
 split at h
 case h_2 => cases h
 rename_i y c
 split at h
 case h_2 => cases h
 rename_i l hl
 cases h
 obtain ⟨cy, r1, rfl, h1, h2⟩ := Qf.cons_iff.1 hr
 obtain ⟨cc, r2, rfl, h3, h4⟩ := Qf.cons_iff.1 h2
 rw [Qf.nil_iff] at h4; subst h4
 simp only [Rel] at h3; subst h3
 obtain ⟨s, rfl, hb⟩ := Qbr (P := P) S hl h1
 refine hx.plain S (c := .int .i64 (Lib.countByte s.data.toList c.toNat.toUInt8 : Nat)) ?_ (by simp [Rel])
 rw [<- Lib.run_countString (P := P) s c E.w]
 have hdef : ∀ b c, Extern.BytealgCount.count #[b, c] = (do
  let b <- Extern.Bytes.bytesOf b
  let c <- Extern.Bytes.asByte c
  pure (goInt (b.foldl (fun n x => if x == c then n + 1 else n) (0 : Nat)))) := fun _ _ => rfl
 show Sem.run P (Extern.BytealgCount.count #[cy, .int .u8 c]) E.w = _
 rw [hdef, hdef, Znt, hb, Znt]
 rfl
theorem sound_indexByte {f : FuncId} (hx : Kh P f Extern.BytealgIndexByte.indexByte) (S : Sim B F H E) {fr : Nat} {dst : Option Nat} {args : List V} {cargs : List Value} {v : V} {x : Option (Nat × Nat × O)}
 (hr : Qf E args cargs) (h : Y7 fr dst (Qb H) args = some (v, x)) : Invokes P f ⟨cargs⟩ E.w (Answer B F H E (.ret v) (wr H x)) := by
 unfold Y7 at h
 split at h
 case h_2 => cases h
 rename_i y c
 split at h
 case h_2 => cases h
 rename_i l hl
 cases h
 obtain ⟨cy, r1, rfl, h1, h2⟩ := Qf.cons_iff.1 hr
 obtain ⟨cc, r2, rfl, h3, h4⟩ := Qf.cons_iff.1 h2
 rw [Qf.nil_iff] at h4; subst h4
 simp only [Rel] at h3; subst h3
 obtain ⟨s, rfl, hb⟩ := Qbr (P := P) S hl h1
 refine hx.plain S (c := .int .i64 (Lib.indexByte s.data.toList c.toNat.toUInt8)) ?_ (by simp [Rel])
 rw [<- Lib.run_indexByteString (P := P) s c E.w]
 have hdef : ∀ b c, Extern.BytealgIndexByte.indexByte #[b, c] = (do
  let b <- Extern.Bytes.bytesOf b
  let c <- Extern.Bytes.asByte c
  match (List.range b.size).find? fun i => b[i]! == c with
  | some i => pure (goInt i)
  | none => pure (goInt (-1))) := fun _ _ => rfl
 show Sem.run P (Extern.BytealgIndexByte.indexByte #[cy, .int .u8 c]) E.w = _
 rw [hdef, hdef, Znt, hb, Znt]
 rfl
theorem sound_compare {f : FuncId} (hx : Kh P f Extern.BytealgCompare.compare) (S : Sim B F H E) {fr : Nat} {dst : Option Nat} {args : List V} {cargs : List Value} {v : V} {x : Option (Nat × Nat × O)}
 (hr : Qf E args cargs) (h : Xt fr dst (Qb H) args = some (v, x)) : Invokes P f ⟨cargs⟩ E.w (Answer B F H E (.ret v) (wr H x)) := by
 unfold Xt at h
 split at h
 case h_2 => cases h
 rename_i y z
 split at h
 case h_2 => cases h
 rename_i l r hl hr'
 cases h
 obtain ⟨cy, r1, rfl, h1, h2⟩ := Qf.cons_iff.1 hr
 obtain ⟨cz, r2, rfl, h3, h4⟩ := Qf.cons_iff.1 h2
 rw [Qf.nil_iff] at h4; subst h4
 obtain ⟨s, rfl, hb⟩ := Qbr (P := P) S hl h1
 obtain ⟨s', rfl, hb'⟩ := Qbr (P := P) S hr' h3
 refine hx.plain S (c := .int .i64 (Lib.compareBytes s.data.toList s'.data.toList)) ?_ (by simp [Rel])
 rw [<- Lib.run_compareString (P := P) s s' E.w]
 have hdef : ∀ a b, Extern.BytealgCompare.compare #[a, b] = (do pure (goInt (Extern.BytealgCompare.cmp (<- Extern.Bytes.bytesOf a) (<- Extern.Bytes.bytesOf b)))) := fun _ _ => rfl
 show Sem.run P (Extern.BytealgCompare.compare #[cy, cz]) E.w = _
 rw [hdef, hdef, Znt, hb, Zns, Znt, hb', Znt]
 rfl
theorem Qiq : ∀ (n t : Nat) (acc : Array Value), (∀ v ∈ acc.toList, ∃ m, v = .int .u8 m) -> ∀ v ∈ (Extern.BytealgMakeNoZero.digits n t acc).toList, ∃ m, v = .int .u8 m
 | 0, _, _, h => h
 | n + 1, t, acc, h => by
   rw [Extern.BytealgMakeNoZero.digits]
   refine Qiq n _ _ fun v hv => ?_
   rw [Array.toList_push, Zlq, Zll] at hv
   rcases hv with hv | rfl
   . exact h v hv
   . exact ⟨_, rfl⟩
theorem Q4l {w : World} {ps : Array TypeId} {t e : TypeId} (ht : P.underlying t = some (.slice e)) {n : Nat} (hn : n <= 281474976710656) :
 ∃ cs : Array Value, (Extern.BytealgMakeNoZero.makeNoZero ps #[t] #[.int .i64 n]).run P w = .ok (.slice (some ⟨w.heap.size, 0, none⟩) n cs.size) (w.drew.drew.alloc (.cells cs e)) /\ n <= cs.size /\
   ∀ v ∈ cs.toList, ∃ m, v = .int .u8 m := by
 have hdef : Extern.BytealgMakeNoZero.makeNoZero ps #[t] #[.int .i64 n] =
  (do
    let .slice elem <- underlying t | stuck "bytealg.MakeNoZero: slice type expected"
    if (n : Int) < 0 || (n : Int) > 2 ^ 48 then runtimePanic (.error "makeslice: len out of range")
    let cap <- choose (.appendCap (n : Int).toNat 0 elem)
    askRoom cap
    let bytes <- choose (.extern "internal/bytealg.MakeNoZero.bytes" 0)
    let a <- newRow elem (Extern.BytealgMakeNoZero.digits cap bytes #[])
    pure (.slice (some a) (n : Int).toNat cap)) := rfl
 refine ⟨Extern.BytealgMakeNoZero.digits (grownCap w n 0 e) ((Question.extern "internal/bytealg.MakeNoZero.bytes" 0).cut (w.tape (w.drawn + 1) (.extern "internal/bytealg.MakeNoZero.bytes" 0))) #[], ?_, ?_, ?_⟩
 . rw [hdef]
   have h1 : ¬ (n : Int) < 0 := by omega
   have h2 : ¬ (281474976710656 : Int) < (n : Int) := by omega
   simp [run_underlying ht, h1, h2, Question.forced, newRow, Lib.size_digits, grownCap]
 . rw [Lib.size_digits]
   simpa using grownCap_ge w n 0 e
 . exact Qiq _ _ _ (by simp)
theorem sound_make {f : FuncId} {ps : Array TypeId} {t e : TypeId} (hx : Kh P f (Extern.BytealgMakeNoZero.makeNoZero ps #[t])) (ht : P.underlying t = some (.slice e)) (S : Sim B F H E) {fr : Nat} (hlt : fr < H.length) {dst : Option Nat}
 {args : List V} {cargs : List Value} {v : V} {x : Option (Nat × Nat × O)}
 (hr : Qf E args cargs) (h : Qby fr dst (Qb H) args = some (v, x)) : Invokes P f ⟨cargs⟩ E.w (Answer B F H E (.ret v) (wr H x)) := by
 unfold Qby at h
 split at h
 case h_2 => cases h
 rename_i n d
 split at h
 case h_2 => cases h
 rename_i hn
 split at h
 case isFalse => cases h
 rename_i hle
 cases h
 obtain ⟨cy, r1, rfl, h1, h2⟩ := Qf.cons_iff.1 hr
 rw [Qf.nil_iff] at h2; subst h2
 simp only [Rel] at h1; subst h1
 obtain ⟨k, rfl⟩ := Int.eq_ofNat_of_zero_le hle.1
 have hk : k <= 281474976710656 := by have := hle.2; omega
 obtain ⟨cs, hrun, hcs, hbytes⟩ := Q4l (P := P) (w := E.w) (ps := ps) ht hk
 have hlen : cs.toList = cs.toList.take k ++ cs.toList.drop k := (Zly _ _).symm
 obtain ⟨X, S'⟩ := S.newCells hlt hn (List.replicate k .byte) (cs.toList.take k) (cs.toList.drop k) e (E.w.drawn + 1 + 1) (by
  have hl : (cs.toList.take k).length = k := by simp; omega
  have : ∀ (l : List Value), (∀ v ∈ l, ∃ n, v = .int .u8 n) -> Qf E (List.replicate l.length .byte) l := by
   intro l
   induction l with
   | nil => intro _; exact .nil
   | cons a l ih => intro hl; exact .cons (by simp only [Rel]; exact hl a (by simp)) (ih fun v hv => hl v (by simp [hv]))
  have := this (cs.toList.take k) (fun v hv => hbytes v (Zlz hv))
  rwa [hl] at this) (by simp [V.scalar])
 refine .inl ⟨_, _, hx.run hrun, E.newCells fr d (cs.toList.take k ++ cs.toList.drop k) e (E.w.drawn + 1 + 1), ?_, ⟨_, rfl, ?_⟩, S', X, by rw [wr_length]; exact Zk0 _⟩
 . rw [<- hlen]; rfl
 . have hsh : ((E.newCells fr d (cs.toList.take k ++ cs.toList.drop k) e (E.w.drawn + 1 + 1)).w.heap)[E.w.heap.size]? = some (.cells ⟨cs.toList.take k ++ cs.toList.drop k⟩ e (0, 0)) := by
    simp [Env.newCells, Env.push]
   simp only [Rel]
   refine ⟨E.w.heap.size, cs.size, e, cs.size, by simp [Env.newCells, upd], rfl, hcs, (fun k h => by cases h), ?_, (by omega), (fun _ => by omega)⟩
   simp only [World.shape?, hsh]
   rw [<- hlen]
end
end Go.AM
end
