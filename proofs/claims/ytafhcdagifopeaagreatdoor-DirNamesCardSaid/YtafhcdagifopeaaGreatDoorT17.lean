/- This file holds in one the texts An23; each says at its head what it proves. -/
import Derived.Test.YtafhcdagifopeaaGreatDoorT16
set_option linter.unusedSimpArgs false
set_option linter.unusedVariables false
section
/- The abstract machine, part 23: without fuel: calls and loops as what they come to with enough of it, and the equations of this. -/
namespace Go.AM

def BLe (b b' : Body) : Prop := ∀ t H r, b t H = some r → b' t H = some r
def CLe (C C' : Call) : Prop := ∀ f a H r, C f a H = some r → C' f a H = some r
inductive All2 {α β : Type} (R : α → β → Prop) : List α → List β → Prop where
  | nil : All2 R [] []
  | cons {x y l m} : R x y → All2 R l m → All2 R (x :: l) (y :: m)
def OLe (x y : Out) : Prop := ∀ r, x = some r → y = some r
def MLe (b b' : MBody) : Prop := ∀ t H, All2 OLe (b t H) (b' t H)
def LLe (L L' : MBody → Body) : Prop := ∀ b b', MLe b b' → BLe (L b) (L' b')

theorem OLe.refl (x : Out) : OLe x x := fun _ h => h
theorem MLe.refl (b : MBody) : MLe b b := fun t H => by
  induction b t H with
  | nil => exact .nil
  | cons x l ih => exact .cons (OLe.refl x) ih
theorem forall_mem {l l' : List Out} (h : All2 OLe l l') : ∀ y ∈ l', ∃ x ∈ l, OLe x y := by
  induction h with
  | nil => intro y hy; cases hy
  | cons h1 _ ih =>
    intro y hy
    rcases List.mem_cons.1 hy with rfl | hy
    · exact ⟨_, List.mem_cons_self, h1⟩
    · obtain ⟨x, hx, hxy⟩ := ih y hy
      exact ⟨x, List.mem_cons_of_mem _ hx, hxy⟩
theorem agree_mono {l l' : List Out} (h : All2 OLe l l') : OLe (agree l) (agree l') := by
  intro r hr
  obtain ⟨hne, hall⟩ := agree_iff.1 hr
  refine agree_of ?_ fun y hy => ?_
  · rintro rfl
    cases h
    exact hne rfl
  · obtain ⟨x, hx, hxy⟩ := forall_mem h y hy
    exact hxy _ (hall x hx)
theorem after_mono {k k' : List V → Heap → Out} (hk : ∀ t H, OLe (k t H) (k' t H)) {x y : Out} (h : OLe x y) : OLe (after k x) (after k' y) := by
  intro r hr
  unfold after at hr
  split at hr
  · rename_i t H
    rw [h _ rfl]
    exact hk t H r hr
  · rename_i hne
    have hy := h r hr
    subst hr hy
    unfold after
    split
    · exact (hne _ _ (by assumption)).elim
    · rfl
theorem forall_map {f g : Out → Out} {l l' : List Out} (hf : ∀ x y, OLe x y → OLe (f x) (g y)) (h : All2 OLe l l') : All2 OLe (l.map f) (l'.map g) := by
  induction h with
  | nil => exact .nil
  | cons h1 _ ih => exact .cons (hf _ _ h1) ih
theorem forall_same {α : Type} {f g : α → Out} {l : List α} (hf : ∀ x, OLe (f x) (g x)) : All2 OLe (l.map f) (l.map g) := by
  induction l with
  | nil => exact .nil
  | cons x l ih => exact .cons (hf x) ih
theorem most {α : Type} {l : List α} {p : α → Nat → Prop} (h : ∀ x ∈ l, ∃ n, ∀ m, n ≤ m → p x m) : ∃ n, ∀ m, n ≤ m → ∀ x ∈ l, p x m := by
  induction l with
  | nil => exact ⟨0, fun _ _ _ h => by cases h⟩
  | cons a l ih =>
    obtain ⟨n, hn⟩ := h a List.mem_cons_self
    obtain ⟨k, hk⟩ := ih fun x hx => h x (List.mem_cons_of_mem _ hx)
    refine ⟨max n k, fun m hm x hx => ?_⟩
    rcases List.mem_cons.1 hx with rfl | hx
    · exact hn m (by omega)
    · exact hk m (by omega) x hx

section
variable {P : Program} {pol : Pol} {C C' : Call} {L L' : MBody → Body} {fn fr : Nat}

theorem callOp_mono (hC : CLe C C') {dst : Option Nat} {f : FuncId} {args : List V} {H : Heap} {r : Rt × Heap} (h : callOp pol C fn fr dst f args H = some r) : callOp pol C' fn fr dst f args H = some r := by
  unfold callOp at h ⊢
  split
  · rename_i g hg; rw [hg] at h; exact h
  · rename_i hg
    rw [hg] at h
    simp only at h
    split
    · rename_i hp
      rw [if_pos hp] at h
      split
      · rename_i ys hys
        rw [hys] at h
        simp only at h
        cases hc : C f ys [] with
        | none => rw [hc] at h; cases h
        | some x => rw [hc] at h; rw [hC _ _ _ _ hc]; exact h
      · rename_i hys; rw [hys] at h; exact h
    · rename_i hp
      rw [if_neg hp] at h
      by_cases hl : pol.lift fn f = true
      · rw [if_pos hl] at h ⊢
        cases hys : frzL (frz (fun _ _ => none) depth) args with
        | none => rw [hys] at h; cases h
        | some ys =>
          rw [hys] at h
          simp only at h ⊢
          cases hc : C f ys [] with
          | none => rw [hc] at h; cases h
          | some x => rw [hc] at h; rw [hC _ _ _ _ hc]; exact h
      · rw [if_neg hl] at h ⊢
        by_cases hk : pol.look fn f = true
        · rw [if_pos hk] at h ⊢
          cases hys : frzL (frz (hget H) depth) args with
          | none => rw [hys] at h; cases h
          | some ys =>
            rw [hys] at h
            simp only at h ⊢
            cases hc : C f ys [] with
            | none => rw [hc] at h; cases h
            | some x => rw [hc] at h; rw [hC _ _ _ _ hc]; exact h
        · rw [if_neg hk] at h ⊢
          cases ht : thinArgs pol fn f args with
          | none => rw [ht] at h; cases h
          | some ys => rw [ht] at h; exact hC _ _ _ _ h

theorem opOne_mono (hC : CLe C C') {t : List V} {H : Heap} {o : Oper} {r : Ex × List V × Heap} (h : opOne P pol C fn fr t H o = some r) : opOne P pol C' fn fr t H o = some r := by
  unfold opOne at h ⊢
  cases hev : evOp P (pol.mt fn) fr (hget H) (rho t) o with
  | none => rw [hev] at h; cases h
  | some st =>
    rw [hev] at h
    cases st with
    | val v w => exact h
    | panic v => exact h
    | call f args =>
      simp only at h ⊢
      cases hc : callOp pol C fn fr o.dst f args H with
      | none => rw [hc] at h; cases h
      | some x => rw [hc] at h; rw [callOp_mono hC hc]; exact h
    | round f s args =>
      simp only at h ⊢
      cases hc : C none (.yield f s :: args) H with
      | none => rw [hc] at h; cases h
      | some x => rw [hc] at h; rw [hC _ _ _ _ hc]; exact h

theorem runOps_mono (hC : CLe C C') {ops : Array Oper} : ∀ (l : List Oper) (t : List V) (H : Heap) (r : Ex × List V × Heap), runOps P pol C fn fr ops l t H = some r → runOps P pol C' fn fr ops l t H = some r
  | [], _, _, _, h => h
  | o :: l, t, H, r, h => by
    simp only [runOps] at h ⊢
    split
    · rename_i hw; rw [hw] at h; cases h
    · rename_i hw; rw [hw] at h; exact runOps_mono hC l _ _ _ h
    · rename_i hw
      rw [hw] at h
      simp only at h
      cases hop : opOne P pol C fn fr t H o with
      | none => rw [hop] at h; cases h
      | some x =>
        rw [hop] at h
        rw [opOne_mono hC hop]
        obtain ⟨e, t1, H1⟩ := x
        cases e with
        | normal => exact runOps_mono hC l _ _ _ h
        | exit i => exact h
        | ret => exact h
        | panic v => exact h

theorem runOpsT_mono (hC : CLe C C') {ops : Array Oper} : ∀ (l : List Oper) (t : List V) (H : Heap) (r : List V × Heap × List FP), runOpsT P pol C fn fr ops l t H = some r → runOpsT P pol C' fn fr ops l t H = some r
  | [], _, _, _, h => h
  | o :: l, t, H, r, h => by
    simp only [runOpsT] at h ⊢
    split
    · rename_i hw; rw [hw] at h; cases h
    · rename_i hw
      rw [hw] at h
      simp only at h
      cases hr : runOpsT P pol C fn fr ops l (putT t o.dst nov) H with
      | none => rw [hr] at h; cases h
      | some x => rw [hr] at h; rw [runOpsT_mono hC l _ _ _ hr]; exact h
    · rename_i hw
      rw [hw] at h
      simp only at h
      cases hop : opOne P pol C fn fr t H o with
      | none => rw [hop] at h; cases h
      | some x =>
        rw [hop] at h
        rw [opOne_mono hC hop]
        obtain ⟨e, t1, H1⟩ := x
        cases e with
        | normal =>
          simp only at h ⊢
          cases hr : runOpsT P pol C fn fr ops l t1 H1 with
          | none => rw [hr] at h; cases h
          | some y => rw [hr] at h; rw [runOpsT_mono hC l _ _ _ hr]; exact h
        | exit i => exact h
        | ret => exact h
        | panic v => exact h

theorem exec_mono2 (hC : CLe C C') (hL : LLe L L') : ∀ c : Code, BLe (exec P pol C L fn fr c) (exec P pol C' L' fn fr c) ∧ ∀ v w, BLe (execF P pol C L fn fr c v w) (execF P pol C' L' fn fr c v w) := by
  intro c
  have no : ∀ {c : Code}, (∀ v w t H, execF P pol C L fn fr c v w t H = none) → ∀ v w, BLe (execF P pol C L fn fr c v w) (execF P pol C' L' fn fr c v w) := fun h v w t H r hr => by rw [h] at hr; cases hr
  induction c with
  | skip => exact ⟨fun _ _ _ h => h, no fun _ _ _ _ => rfl⟩
  | region id ops draw =>
    refine ⟨fun t H r h => ?_, fun v w t H r h => ?_⟩
    · cases draw with
      | true =>
        simp only [exec, if_true] at h ⊢
        cases hr : runOpsT P pol C fn fr ops ops.toList t H with
        | none => rw [hr] at h; cases h
        | some x => rw [hr] at h; rw [runOpsT_mono hC _ _ _ _ hr]; exact h
      | false =>
        simp only [exec, Bool.false_eq_true, if_false] at h ⊢
        exact runOps_mono hC _ _ _ _ h
    · simp only [execF] at h ⊢
      split
      · rename_i o l ho
        rw [ho] at h
        exact runOps_mono hC _ _ _ _ h
      · rename_i ho
        rw [ho] at h; cases h
  | seq a b iha ihb =>
    refine ⟨fun t H r h => ?_, fun v w t H r h => ?_⟩
    · simp only [exec] at h ⊢
      cases hx : exec P pol C L fn fr a t H with
      | none => rw [hx] at h; cases h
      | some x =>
        rw [hx] at h
        rw [iha.1 _ _ _ hx]
        obtain ⟨e, t1, H1⟩ := x
        cases e with
        | normal => exact ihb.1 _ _ _ h
        | exit i => exact h
        | ret => exact h
        | panic v => exact h
    · simp only [execF] at h ⊢
      cases hx : execF P pol C L fn fr a v w t H with
      | none => rw [hx] at h; cases h
      | some x =>
        rw [hx] at h
        rw [iha.2 v w _ _ _ hx]
        obtain ⟨e, t1, H1⟩ := x
        cases e with
        | normal => exact ihb.1 _ _ _ h
        | exit i => exact h
        | ret => exact h
        | panic v => exact h
  | cond c x y ihx ihy =>
    refine ⟨fun t H r h => ?_, no fun _ _ _ _ => rfl⟩
    simp only [exec] at h ⊢
    cases hc : rho t c with
    | bool b =>
      rw [hc] at h
      cases b with
      | true => exact ihx.1 _ _ _ h
      | false => exact ihy.1 _ _ _ h
    | _ => rw [hc] at h; cases h
  | block id b ih =>
    refine ⟨fun t H r h => ?_, no fun _ _ _ _ => rfl⟩
    simp only [exec] at h ⊢
    cases hx : exec P pol C L fn fr b t H with
    | none => rw [hx] at h; cases h
    | some x => rw [hx] at h; rw [ih.1 _ _ _ hx]; exact h
  | loop b ih =>
    refine ⟨fun t H r h => ?_, no fun _ _ _ _ => rfl⟩
    simp only [exec] at h ⊢
    refine hL _ _ ?_ _ _ _ h
    intro t H
    simp only
    split
    · split
      · exact .cons (fun r h => ih.1 _ _ _ h) .nil
      · split
        · exact forall_same fun c r h => ih.2 c.1 c.2 _ _ _ h
        · exact .cons (OLe.refl _) .nil
    · exact .cons (OLe.refl _) .nil
  | rangeFunc g ps a b iha ihb =>
    refine ⟨fun t H r h => ?_, no fun _ _ _ _ => rfl⟩
    simp only [exec] at h ⊢
    split at h
    case h_2 => cases h
    rename_i f first cap hg
    split at h
    case h_2 => cases h
    rename_i hn
    split at h
    case h_2 => cases h
    rename_i v H2 hc
    rw [hC _ _ _ _ hc]
    exact h
  | _ => exact ⟨fun _ _ _ h => h, no fun _ _ _ _ => rfl⟩

theorem exec_mono (hC : CLe C C') (hL : LLe L L') (c : Code) : BLe (exec P pol C L fn fr c) (exec P pol C' L' fn fr c) := (exec_mono2 hC hL c).1

theorem callF_mono (hC : CLe C C') (hL : LLe L L') : ∀ f args H r, callF P pol C L f args H = some r → callF P pol C' L' f args H = some r := by
  intro f args H r h
  unfold callF at h ⊢
  cases hF : P.funcs[f]? with
  | none => rw [hF] at h; cases h
  | some F =>
    rw [hF] at h
    simp only at h ⊢
    cases hb : F.body with
    | none => rw [hb] at h; cases h
    | some c =>
      rw [hb] at h
      simp only at h ⊢
      cases hx : exec P pol C L f H.length c (args ++ List.replicate (F.ntmps - args.length) .bad) (H ++ [[]]) with
      | none => rw [hx] at h; cases h
      | some x => rw [hx] at h; rw [exec_mono hC hL c _ _ _ hx]; exact h
theorem callR_mono (hC : CLe C C') (hL : LLe L L') : ∀ fo so args H r, callR P pol C L fo so args H = some r → callR P pol C' L' fo so args H = some r := by
  intro fo so args H r h
  unfold callR at h ⊢
  split at h
  case h_2 => cases h
  rename_i pend fL rid t0 hg
  split at h
  case h_2 => cases h
  rename_i ps a b hl
  split at h
  case isFalse => cases h
  rename_i hlen
  rw [if_pos hlen]
  split at h
  case h_2 => cases h
  rename_i t1 H1 hx1
  rw [exec_mono hC hL _ _ _ _ hx1]
  simp only
  split at h
  case h_2 => cases h
  rename_i pend1 fL1 rid1 t01 hg1
  split at h
  case h_2 => cases h
  rename_i e t2 H2 hx2
  rw [exec_mono hC hL _ _ _ _ hx2]
  exact h
theorem callB_mono (hC : CLe C C') (hL : LLe L L') : CLe (callB P pol C L) (callB P pol C' L') := by
  intro f args H r h
  cases f with
  | some f => exact callF_mono hC hL f args H r h
  | none =>
    simp only [callB] at h ⊢
    split at h
    · exact callR_mono hC hL _ _ _ _ _ h
    · cases h

theorem loopN_mono {b b' : MBody} (hb : MLe b b') : ∀ (n m : Nat), n ≤ m → BLe (loopN b n) (loopN b' m)
  | 0, _, _ => fun _ _ _ h => by cases h
  | n + 1, 0, hm => by omega
  | n + 1, m + 1, hm => by
    intro t H r h
    simp only [loopN] at h ⊢
    exact agree_mono (forall_map (fun x y hxy => after_mono (fun t H r h => loopN_mono hb n m (by omega) t H r h) hxy) (hb t H)) r h

theorem callN_mono : ∀ (n m : Nat), n ≤ m → CLe (callN P pol n) (callN P pol m)
  | 0, _, _ => fun _ _ _ _ h => by cases h
  | n + 1, 0, hm => by omega
  | n + 1, m + 1, hm => callB_mono (callN_mono n m (by omega)) fun b b' hb => loopN_mono hb n m (by omega)

end

open Classical in
noncomputable def lim {α : Type} (f : Nat → Option α) : Option α := if h : ∃ r n, f n = some r then some h.choose else none

theorem lim_some {α : Type} {f : Nat → Option α} {r : α} (hm : ∀ n m a, n ≤ m → f n = some a → f m = some a) : lim f = some r ↔ ∃ n, f n = some r := by
  unfold lim
  constructor
  · intro h
    split at h
    · rename_i hx; cases h; exact hx.choose_spec
    · cases h
  · rintro ⟨n, hn⟩
    have hx : ∃ r n, f n = some r := ⟨r, n, hn⟩
    rw [dif_pos hx]
    obtain ⟨k, hk⟩ := hx.choose_spec
    have h1 := hm _ (max n k) _ (Nat.le_max_left _ _) hn
    have h2 := hm _ (max n k) _ (Nat.le_max_right _ _) hk
    rw [h1] at h2
    exact congrArg some (Option.some.inj h2).symm

noncomputable def loopW (b : MBody) : Body := fun t H => lim fun n => loopN b n t H
noncomputable def callW (P : Program) (pol : Pol) : Call := fun f args H => lim fun n => callN P pol n f args H

theorem loopW_some {b : MBody} {t : List V} {H : Heap} {r : Ex × List V × Heap} : loopW b t H = some r ↔ ∃ n, loopN b n t H = some r :=
  lim_some fun n m _ hn h => loopN_mono (MLe.refl b) n m hn _ _ _ h

theorem loopW_eq (b : MBody) (t : List V) (H : Heap) : loopW b t H = agree ((b t H).map (after (loopW b))) := by
  have hiff : ∀ r, loopW b t H = some r ↔ agree ((b t H).map (after (loopW b))) = some r := by
    intro r
    rw [loopW_some]
    constructor
    · rintro ⟨n, hn⟩
      cases n with
      | zero => cases hn
      | succ n =>
        simp only [loopN] at hn
        exact agree_mono (forall_map (fun x y hxy => after_mono (fun t H r h => loopW_some.2 ⟨n, h⟩) hxy) (MLe.refl b t H)) r hn
    · intro h
      obtain ⟨hne, hall⟩ := agree_iff.1 h
      have : ∀ x ∈ b t H, ∃ n, ∀ m, n ≤ m → after (loopN b m) x = some r := by
        intro x hx
        have h1 := hall _ (List.mem_map.2 ⟨x, hx, rfl⟩)
        unfold after at h1
        split at h1
        · rename_i t1 H1
          obtain ⟨n, hn⟩ := loopW_some.1 h1
          exact ⟨n, fun m hm => loopN_mono (MLe.refl b) n m hm _ _ _ hn⟩
        · rename_i hne1
          refine ⟨0, fun m _ => ?_⟩
          unfold after
          split
          · exact absurd rfl (hne1 _ _)
          · exact h1
      obtain ⟨n, hn⟩ := most this
      refine ⟨n + 1, ?_⟩
      simp only [loopN]
      refine agree_of (by simpa using hne) fun y hy => ?_
      obtain ⟨x, hx, rfl⟩ := List.mem_map.1 hy
      exact hn n (Nat.le_refl n) x hx
  cases h1 : loopW b t H with
  | some r => exact ((hiff r).1 h1).symm
  | none =>
    cases h2 : agree ((b t H).map (after (loopW b))) with
    | none => rfl
    | some r => rw [(hiff r).2 h2] at h1; cases h1

theorem loopW_one {b : MBody} {t : List V} {H : Heap} {x : Out} (h : b t H = [x]) : loopW b t H = after (loopW b) x := by
  rw [loopW_eq, h]; rfl

section
variable {P : Program} {pol : Pol} {fn fr : Nat}

theorem callW_some {f : Option FuncId} {args : List V} {H : Heap} {r : Rt × Heap} : callW P pol f args H = some r ↔ ∃ n, callN P pol n f args H = some r :=
  lim_some fun n m _ hn h => callN_mono n m hn _ _ _ _ h

theorem callW_sound (ok : Okay P pol) : CSound P (callW P pol) := by
  refine ⟨fun f args H r H' h => ?_, fun fo so rest H r H' h => ?_⟩
  · obtain ⟨n, hn⟩ := callW_some.1 h
    exact (callN_sound ok n).1 f args H r H' hn
  · obtain ⟨n, hn⟩ := callW_some.1 h
    exact (callN_sound ok n).2 fo so rest H r H' hn

theorem callOp_cont {dst : Option Nat} {f : FuncId} {args : List V} {H : Heap} {r : Rt × Heap} (h : callOp pol (callW P pol) fn fr dst f args H = some r) : ∃ n, callOp pol (callN P pol n) fn fr dst f args H = some r := by
  unfold callOp at h
  split at h
  · rename_i g hg; exact ⟨0, by simp only [callOp, hg]; exact h⟩
  · rename_i hg
    split at h
    · rename_i hp
      split at h
      · rename_i ys hys
        cases hc : callW P pol f ys [] with
        | none => rw [hc] at h; cases h
        | some x =>
          obtain ⟨n, hn⟩ := callW_some.1 hc
          rw [hc] at h
          exact ⟨n, by simp only [callOp, hg, hp, if_true, hys, hn]; exact h⟩
      · cases h
    · rename_i hp
      by_cases hl : pol.lift fn f = true
      · rw [if_pos hl] at h
        cases hys : frzL (frz (fun _ _ => none) depth) args with
        | none => rw [hys] at h; cases h
        | some ys =>
          rw [hys] at h
          simp only at h
          cases hc : callW P pol f ys [] with
          | none => rw [hc] at h; cases h
          | some x =>
            obtain ⟨n, hn⟩ := callW_some.1 hc
            rw [hc] at h
            exact ⟨n, by simp only [callOp, hg, hp, Bool.false_eq_true, if_false, hl, if_true, hys, hn]; exact h⟩
      · rw [if_neg hl] at h
        by_cases hk : pol.look fn f = true
        · rw [if_pos hk] at h
          cases hys : frzL (frz (hget H) depth) args with
          | none => rw [hys] at h; cases h
          | some ys =>
            rw [hys] at h
            simp only at h
            cases hc : callW P pol f ys [] with
            | none => rw [hc] at h; cases h
            | some x =>
              obtain ⟨n, hn⟩ := callW_some.1 hc
              rw [hc] at h
              exact ⟨n, by simp only [callOp, hg, hp, Bool.false_eq_true, if_false, hl, hk, if_true, hys, hn]; exact h⟩
        · rw [if_neg hk] at h
          cases ht : thinArgs pol fn f args with
          | none => rw [ht] at h; cases h
          | some ys =>
            rw [ht] at h
            obtain ⟨n, hn⟩ := callW_some.1 h
            exact ⟨n, by simp only [callOp, hg, hp, Bool.false_eq_true, if_false, hl, hk, ht, hn]⟩

theorem opOne_cont {t : List V} {H : Heap} {o : Oper} {r : Ex × List V × Heap} (h : opOne P pol (callW P pol) fn fr t H o = some r) : ∃ n, opOne P pol (callN P pol n) fn fr t H o = some r := by
  unfold opOne at h
  cases hev : evOp P (pol.mt fn) fr (hget H) (rho t) o with
  | none => rw [hev] at h; cases h
  | some st =>
    rw [hev] at h
    cases st with
    | val v w => exact ⟨0, by simp only [opOne, hev]; exact h⟩
    | panic v => exact ⟨0, by simp only [opOne, hev]; exact h⟩
    | call f args =>
      simp only at h
      cases hc : callOp pol (callW P pol) fn fr o.dst f args H with
      | none => rw [hc] at h; cases h
      | some x =>
        obtain ⟨n, hn⟩ := callOp_cont hc
        rw [hc] at h
        exact ⟨n, by simp only [opOne, hev, hn]; exact h⟩
    | round f s args =>
      simp only at h
      cases hc : callW P pol none (.yield f s :: args) H with
      | none => rw [hc] at h; cases h
      | some x =>
        obtain ⟨n, hn⟩ := callW_some.1 hc
        rw [hc] at h
        exact ⟨n, by simp only [opOne, hev, hn]; exact h⟩

theorem runOps_cont {ops : Array Oper} : ∀ (l : List Oper) (t : List V) (H : Heap) (r : Ex × List V × Heap), runOps P pol (callW P pol) fn fr ops l t H = some r → ∃ n, runOps P pol (callN P pol n) fn fr ops l t H = some r
  | [], _, _, _, h => ⟨0, h⟩
  | o :: l, t, H, r, h => by
    simp only [runOps] at h
    split at h
    · cases h
    · rename_i hw
      obtain ⟨n, hn⟩ := runOps_cont l _ _ _ h
      exact ⟨n, by simp only [runOps, hw]; exact hn⟩
    · rename_i hw
      cases hop : opOne P pol (callW P pol) fn fr t H o with
      | none => rw [hop] at h; cases h
      | some x =>
        rw [hop] at h
        obtain ⟨n, hn⟩ := opOne_cont hop
        obtain ⟨e, t1, H1⟩ := x
        cases e with
        | normal =>
          simp only at h
          obtain ⟨m, hm⟩ := runOps_cont l _ _ _ h
          refine ⟨max n m, ?_⟩
          simp only [runOps, hw]
          rw [opOne_mono (callN_mono n (max n m) (Nat.le_max_left _ _)) hn]
          exact runOps_mono (callN_mono m (max n m) (Nat.le_max_right _ _)) l _ _ _ hm
        | exit i => exact ⟨n, by simp only [runOps, hw, hn]; exact h⟩
        | ret => exact ⟨n, by simp only [runOps, hw, hn]; exact h⟩
        | panic v => exact ⟨n, by simp only [runOps, hw, hn]; exact h⟩

theorem runOpsT_cont {ops : Array Oper} : ∀ (l : List Oper) (t : List V) (H : Heap) (r : List V × Heap × List FP), runOpsT P pol (callW P pol) fn fr ops l t H = some r → ∃ n, runOpsT P pol (callN P pol n) fn fr ops l t H = some r
  | [], _, _, _, h => ⟨0, h⟩
  | o :: l, t, H, r, h => by
    simp only [runOpsT] at h
    split at h
    · cases h
    · rename_i hw
      cases hr : runOpsT P pol (callW P pol) fn fr ops l (putT t o.dst nov) H with
      | none => rw [hr] at h; cases h
      | some x =>
        rw [hr] at h
        obtain ⟨n, hn⟩ := runOpsT_cont l _ _ _ hr
        exact ⟨n, by simp only [runOpsT, hw, hn]; exact h⟩
    · rename_i hw
      cases hop : opOne P pol (callW P pol) fn fr t H o with
      | none => rw [hop] at h; cases h
      | some x =>
        rw [hop] at h
        obtain ⟨n, hn⟩ := opOne_cont hop
        obtain ⟨e, t1, H1⟩ := x
        cases e with
        | normal =>
          simp only at h
          cases hr : runOpsT P pol (callW P pol) fn fr ops l t1 H1 with
          | none => rw [hr] at h; cases h
          | some y =>
            rw [hr] at h
            obtain ⟨m, hm⟩ := runOpsT_cont l _ _ _ hr
            refine ⟨max n m, ?_⟩
            simp only [runOpsT, hw]
            rw [opOne_mono (callN_mono n (max n m) (Nat.le_max_left _ _)) hn]
            simp only
            rw [runOpsT_mono (callN_mono m (max n m) (Nat.le_max_right _ _)) l _ _ _ hm]
            exact h
        | exit i => cases h
        | ret => cases h
        | panic v => cases h

theorem exec_cont2 : ∀ (c : Code), (∀ (t : List V) (H : Heap) (r : Ex × List V × Heap), exec P pol (callW P pol) loopW fn fr c t H = some r →
      ∃ n, exec P pol (callN P pol n) (fun b => loopN b n) fn fr c t H = some r) ∧
    ∀ v w (t : List V) (H : Heap) (r : Ex × List V × Heap), execF P pol (callW P pol) loopW fn fr c v w t H = some r → ∃ n, execF P pol (callN P pol n) (fun b => loopN b n) fn fr c v w t H = some r := by
  have up : ∀ (c : Code) (n m : Nat), n ≤ m → BLe (exec P pol (callN P pol n) (fun b => loopN b n) fn fr c) (exec P pol (callN P pol m) (fun b => loopN b m) fn fr c) :=
    fun c n m hn => exec_mono (callN_mono n m hn) (fun b b' hb => loopN_mono hb n m hn) c
  have upF : ∀ (c : Code) (n m : Nat) v w, n ≤ m → BLe (execF P pol (callN P pol n) (fun b => loopN b n) fn fr c v w) (execF P pol (callN P pol m) (fun b => loopN b m) fn fr c v w) :=
    fun c n m v w hn => (exec_mono2 (callN_mono n m hn) (fun b b' hb => loopN_mono hb n m hn) c).2 v w
  have no : ∀ {c : Code}, (∀ v w t H, execF P pol (callW P pol) loopW fn fr c v w t H = none) → ∀ v w (t : List V) (H : Heap) (r : Ex × List V × Heap), execF P pol (callW P pol) loopW fn fr c v w t H = some r →
      ∃ n, execF P pol (callN P pol n) (fun b => loopN b n) fn fr c v w t H = some r := fun h v w t H r hr => by rw [h] at hr; cases hr
  intro c
  induction c with
  | skip => exact ⟨fun _ _ _ h => ⟨0, h⟩, no fun _ _ _ _ => rfl⟩
  | region id ops draw =>
    refine ⟨fun t H r h => ?_, fun v w t H r h => ?_⟩
    · cases draw with
      | true =>
        simp only [exec, if_true] at h ⊢
        cases hr : runOpsT P pol (callW P pol) fn fr ops ops.toList t H with
        | none => rw [hr] at h; cases h
        | some x =>
          rw [hr] at h
          obtain ⟨n, hn⟩ := runOpsT_cont _ _ _ _ hr
          exact ⟨n, by rw [hn]; exact h⟩
      | false =>
        simp only [exec, Bool.false_eq_true, if_false] at h ⊢
        exact runOps_cont _ _ _ _ h
    · simp only [execF] at h ⊢
      cases ho : ops.toList with
      | nil => rw [ho] at h; cases h
      | cons o l => rw [ho] at h; exact runOps_cont _ _ _ _ h
  | seq a b iha ihb =>
    refine ⟨fun t H r h => ?_, fun v w t H r h => ?_⟩
    · simp only [exec] at h ⊢
      cases hx : exec P pol (callW P pol) loopW fn fr a t H with
      | none => rw [hx] at h; cases h
      | some x =>
        rw [hx] at h
        obtain ⟨n, hn⟩ := iha.1 _ _ _ hx
        obtain ⟨e, t1, H1⟩ := x
        cases e with
        | normal =>
          obtain ⟨m, hm⟩ := ihb.1 _ _ _ h
          refine ⟨max n m, ?_⟩
          rw [up a n (max n m) (Nat.le_max_left _ _) _ _ _ hn]
          exact up b m (max n m) (Nat.le_max_right _ _) _ _ _ hm
        | exit i => exact ⟨n, by rw [hn]; exact h⟩
        | ret => exact ⟨n, by rw [hn]; exact h⟩
        | panic v => exact ⟨n, by rw [hn]; exact h⟩
    · simp only [execF] at h ⊢
      cases hx : execF P pol (callW P pol) loopW fn fr a v w t H with
      | none => rw [hx] at h; cases h
      | some x =>
        rw [hx] at h
        obtain ⟨n, hn⟩ := iha.2 v w _ _ _ hx
        obtain ⟨e, t1, H1⟩ := x
        cases e with
        | normal =>
          obtain ⟨m, hm⟩ := ihb.1 _ _ _ h
          refine ⟨max n m, ?_⟩
          rw [upF a n (max n m) v w (Nat.le_max_left _ _) _ _ _ hn]
          exact up b m (max n m) (Nat.le_max_right _ _) _ _ _ hm
        | exit i => exact ⟨n, by rw [hn]; exact h⟩
        | ret => exact ⟨n, by rw [hn]; exact h⟩
        | panic v => exact ⟨n, by rw [hn]; exact h⟩
  | cond c x y ihx ihy =>
    refine ⟨fun t H r h => ?_, no fun _ _ _ _ => rfl⟩
    simp only [exec] at h ⊢
    cases hc : rho t c with
    | bool b =>
      rw [hc] at h
      cases b with
      | true => exact ihx.1 _ _ _ h
      | false => exact ihy.1 _ _ _ h
    | _ => rw [hc] at h; cases h
  | block id b ih =>
    refine ⟨fun t H r h => ?_, no fun _ _ _ _ => rfl⟩
    simp only [exec] at h ⊢
    cases hx : exec P pol (callW P pol) loopW fn fr b t H with
    | none => rw [hx] at h; cases h
    | some x =>
      rw [hx] at h
      obtain ⟨n, hn⟩ := ih.1 _ _ _ hx
      exact ⟨n, by rw [hn]; exact h⟩
  | loop b ih =>
    refine ⟨fun t H r h => ?_, no fun _ _ _ _ => rfl⟩
    simp only [exec] at h ⊢
    obtain ⟨k, hk⟩ := loopW_some.1 h
    have : ∀ (k : Nat) t H r, loopN (fun t H => match forget pol fn fr (fstRegion b) t H with
        | some (t, H) => (match headNext b with
          | none => [exec P pol (callW P pol) loopW fn fr b t H]
          | some x => (match nextC (hget H) (rho t x) with
            | some cs => cs.map fun c => execF P pol (callW P pol) loopW fn fr b c.1 c.2 t H
            | none => [none]))
        | none => [none]) k t H = some r → ∃ n, ∀ m, n ≤ m → loopN (fun t H => match forget pol fn fr (fstRegion b) t H with
        | some (t, H) => (match headNext b with
          | none => [exec P pol (callN P pol m) (fun b => loopN b m) fn fr b t H]
          | some x => (match nextC (hget H) (rho t x) with
            | some cs => cs.map fun c => execF P pol (callN P pol m) (fun b => loopN b m) fn fr b c.1 c.2 t H
            | none => [none]))
        | none => [none]) k t H = some r := by
      intro k
      induction k with
      | zero => intro t H r h; cases h
      | succ k ihk =>
        intro t H r h
        simp only [loopN] at h ⊢
        have one : ∀ (W : Out) (N : Nat → Out), (∀ y, W = some y → ∃ n, ∀ m, n ≤ m → N m = some y) → after (loopN (fun t H => match forget pol fn fr (fstRegion b) t H with
            | some (t, H) => (match headNext b with
              | none => [exec P pol (callW P pol) loopW fn fr b t H]
              | some x => (match nextC (hget H) (rho t x) with
                | some cs => cs.map fun c => execF P pol (callW P pol) loopW fn fr b c.1 c.2 t H
                | none => [none]))
            | none => [none]) k) W = some r → ∃ n, ∀ m, n ≤ m → after (loopN (fun t H => match forget pol fn fr (fstRegion b) t H with
            | some (t, H) => (match headNext b with
              | none => [exec P pol (callN P pol m) (fun b => loopN b m) fn fr b t H]
              | some x => (match nextC (hget H) (rho t x) with
                | some cs => cs.map fun c => execF P pol (callN P pol m) (fun b => loopN b m) fn fr b c.1 c.2 t H
                | none => [none]))
            | none => [none]) k) (N m) = some r := by
          intro W N hWN hW
          cases W with
          | none => cases hW
          | some y =>
            obtain ⟨n, hn⟩ := hWN y rfl
            obtain ⟨e, t1, H1⟩ := y
            cases e with
            | normal =>
              obtain ⟨m, hm⟩ := ihk _ _ _ hW
              refine ⟨max n m, fun q hq => ?_⟩
              rw [hn q (by omega)]
              exact hm q (by omega)
            | exit i => exact ⟨n, fun q hq => by rw [hn q hq]; exact hW⟩
            | ret => exact ⟨n, fun q hq => by rw [hn q hq]; exact hW⟩
            | panic v => exact ⟨n, fun q hq => by rw [hn q hq]; exact hW⟩
        cases hf : forget pol fn fr (fstRegion b) t H with
        | none => rw [hf] at h; cases h
        | some x =>
          rw [hf] at h
          simp only at h ⊢
          cases hd : headNext b with
          | none =>
            rw [hd] at h one
            simp only [List.map_cons, List.map_nil, agree_one] at h ⊢
            exact one _ (fun m => exec P pol (callN P pol m) (fun b => loopN b m) fn fr b x.1 x.2) (fun y hy => by
              obtain ⟨n, hn⟩ := ih.1 _ _ _ hy
              exact ⟨n, fun m hm => up b n m hm _ _ _ hn⟩) h
          | some z =>
            rw [hd] at h one
            simp only at h ⊢
            cases hc : nextC (hget x.2) (rho x.1 z) with
            | none => rw [hc] at h; cases h
            | some cs =>
              rw [hc] at h
              simp only [List.map_map] at h ⊢
              obtain ⟨hne, hall⟩ := agree_iff.1 h
              obtain ⟨n, hn⟩ := most (l := cs) (p := fun c m => after _ (execF P pol (callN P pol m) (fun b => loopN b m) fn fr b c.1 c.2 x.1 x.2) = some r) (fun c hc' => by
                exact one _ (fun m => execF P pol (callN P pol m) (fun b => loopN b m) fn fr b c.1 c.2 x.1 x.2) (fun y hy => by
                  obtain ⟨n, hn⟩ := ih.2 _ _ _ _ _ hy
                  exact ⟨n, fun m hm => upF b n m _ _ hm _ _ _ hn⟩) (hall _ (List.mem_map.2 ⟨c, hc', rfl⟩)))
              refine ⟨n, fun m hm => agree_of (by simpa using hne) fun y hy => ?_⟩
              obtain ⟨c, hc', rfl⟩ := List.mem_map.1 hy
              exact hn m hm c hc'
    obtain ⟨n, hn⟩ := this k t H r hk
    refine ⟨max n k, ?_⟩
    exact loopN_mono (MLe.refl _) k (max n k) (Nat.le_max_right _ _) _ _ _ (hn (max n k) (Nat.le_max_left _ _))
  | rangeFunc g ps a b iha ihb =>
    refine ⟨?_, no fun _ _ _ _ => rfl⟩
    intro t H r h
    simp only [exec] at h
    split at h
    case h_2 => cases h
    rename_i f first cap hg
    split at h
    case h_2 => cases h
    rename_i hn
    split at h
    case h_2 => cases h
    rename_i v H2 hc
    obtain ⟨n, hn'⟩ := callW_some.1 hc
    refine ⟨n, ?_⟩
    simp only [exec, hg, hn, hn']
    exact h
  | _ =>
    refine ⟨?_, no fun _ _ _ _ => rfl⟩
    intro t H r h
    cases h <;> exact ⟨0, rfl⟩

theorem exec_cont (c : Code) (t : List V) (H : Heap) (r : Ex × List V × Heap) (h : exec P pol (callW P pol) loopW fn fr c t H = some r) :
    ∃ n, exec P pol (callN P pol n) (fun b => loopN b n) fn fr c t H = some r := (exec_cont2 c).1 t H r h

theorem callW_of {f : FuncId} {args : List V} {H : Heap} {r : Rt × Heap} (h : callB P pol (callW P pol) loopW f args H = some r) : callW P pol f args H = some r := by
  have : ∃ n, callB P pol (callN P pol n) (fun b => loopN b n) f args H = some r := by
    simp only [callB] at h ⊢
    unfold callF at h ⊢
    cases hF : P.funcs[f]? with
    | none => rw [hF] at h; cases h
    | some F =>
      rw [hF] at h
      simp only at h ⊢
      cases hb : F.body with
      | none => rw [hb] at h; cases h
      | some c =>
        rw [hb] at h
        simp only at h ⊢
        cases hx : exec P pol (callW P pol) loopW f H.length c (args ++ List.replicate (F.ntmps - args.length) .bad) (H ++ [[]]) with
        | none => rw [hx] at h; cases h
        | some x =>
          rw [hx] at h
          obtain ⟨n, hn⟩ := exec_cont c _ _ _ hx
          exact ⟨n, by rw [hn]; exact h⟩
  obtain ⟨n, hn⟩ := this
  exact callW_some.2 ⟨n + 1, hn⟩

theorem callW_round {fo so : Nat} {args : List V} {H : Heap} {r : Rt × Heap} (h : callR P pol (callW P pol) loopW fo so args H = some r) : callW P pol none (.yield fo so :: args) H = some r := by
  have : ∃ n, callR P pol (callN P pol n) (fun b => loopN b n) fo so args H = some r := by
    unfold callR at h
    split at h
    case h_2 => cases h
    rename_i pend fL rid t0 hg
    split at h
    case h_2 => cases h
    rename_i ps a b hl
    split at h
    case isFalse => cases h
    rename_i hlen
    split at h
    case h_2 => cases h
    rename_i t1 H1 hx1
    split at h
    case h_2 => cases h
    rename_i pend1 fL1 rid1 t01 hg1
    split at h
    case h_2 => cases h
    rename_i e t2 H2 hx2
    obtain ⟨n1, h1⟩ := exec_cont _ _ _ _ hx1
    obtain ⟨n2, h2⟩ := exec_cont _ _ _ _ hx2
    have m1 := exec_mono (callN_mono (P := P) (pol := pol) n1 (max n1 n2) (Nat.le_max_left _ _)) (fun b b' hb => loopN_mono hb n1 (max n1 n2) (Nat.le_max_left _ _)) _ _ _ _ h1
    have m2 := exec_mono (callN_mono (P := P) (pol := pol) n2 (max n1 n2) (Nat.le_max_right _ _)) (fun b b' hb => loopN_mono hb n2 (max n1 n2) (Nat.le_max_right _ _)) _ _ _ _ h2
    refine ⟨max n1 n2, ?_⟩
    unfold callR
    simp only [hg, hl, if_pos hlen, m1, hg1, m2]
    exact h
  obtain ⟨n, hn⟩ := this
  exact callW_some.2 ⟨n + 1, hn⟩

end
end Go.AM
end
