/- The abstract machine, part 23: without fuel: calls and loops as what they come to with enough of it, and the equations of this. -/
import Derived.Test.YtpbhldhmjmfigaaDoorAm18
set_option linter.unusedSimpArgs false
set_option linter.unusedVariables false
namespace Go.AM

def BLe (b b' : Body) : Prop := ∀ t H r, b t H = some r → b' t H = some r
def CLe (C C' : Call) : Prop := ∀ f a H r, C f a H = some r → C' f a H = some r
def LLe (L L' : Body → Body) : Prop := ∀ b b', BLe b b' → BLe (L b) (L' b')

section
variable {P : Program} {pol : Pol} {C C' : Call} {L L' : Body → Body} {fn fr : Nat}

theorem callOp_mono (hC : CLe C C') {dst : Option Nat} {f : FuncId} {args : List V} {H : Heap} {r : Rt × Heap} (h : callOp pol C fn fr dst f args H = some r) : callOp pol C' fn fr dst f args H = some r := by
  unfold callOp at h ⊢
  split
  · rename_i g hg; rw [hg] at h; exact h
  · rename_i hg
    rw [hg] at h
    simp only at h
    split
    · rename_i hp
      rw [if_pos hp] at h
      split
      · rename_i ys hys
        rw [hys] at h
        simp only at h
        cases hc : C f ys [] with
        | none => rw [hc] at h; cases h
        | some x => rw [hc] at h; rw [hC _ _ _ _ hc]; exact h
      · rename_i hys; rw [hys] at h; exact h
    · rename_i hp
      rw [if_neg hp] at h
      cases ht : thinArgs pol fn f args with
      | none => rw [ht] at h; cases h
      | some ys => rw [ht] at h; exact hC _ _ _ _ h

theorem opOne_mono (hC : CLe C C') {t : List V} {H : Heap} {o : Oper} {r : Ex × List V × Heap} (h : opOne P pol C fn fr t H o = some r) : opOne P pol C' fn fr t H o = some r := by
  unfold opOne at h ⊢
  cases hev : evOp P (pol.mt fn) fr (hget H) (rho t) o with
  | none => rw [hev] at h; cases h
  | some st =>
    rw [hev] at h
    cases st with
    | val v w => exact h
    | panic v => exact h
    | call f args =>
      simp only at h ⊢
      cases hc : callOp pol C fn fr o.dst f args H with
      | none => rw [hc] at h; cases h
      | some x => rw [hc] at h; rw [callOp_mono hC hc]; exact h

theorem runOps_mono (hC : CLe C C') {ops : Array Oper} : ∀ (l : List Oper) (t : List V) (H : Heap) (r : Ex × List V × Heap), runOps P pol C fn fr ops l t H = some r → runOps P pol C' fn fr ops l t H = some r
  | [], _, _, _, h => h
  | o :: l, t, H, r, h => by
    simp only [runOps] at h ⊢
    split
    · rename_i hw; rw [hw] at h; cases h
    · rename_i hw; rw [hw] at h; exact runOps_mono hC l _ _ _ h
    · rename_i hw
      rw [hw] at h
      simp only at h
      cases hop : opOne P pol C fn fr t H o with
      | none => rw [hop] at h; cases h
      | some x =>
        rw [hop] at h
        rw [opOne_mono hC hop]
        obtain ⟨e, t1, H1⟩ := x
        cases e with
        | normal => exact runOps_mono hC l _ _ _ h
        | exit i => exact h
        | ret => exact h
        | panic v => exact h

theorem runOpsT_mono (hC : CLe C C') {ops : Array Oper} : ∀ (l : List Oper) (t : List V) (H : Heap) (r : List V × Heap × List FP), runOpsT P pol C fn fr ops l t H = some r → runOpsT P pol C' fn fr ops l t H = some r
  | [], _, _, _, h => h
  | o :: l, t, H, r, h => by
    simp only [runOpsT] at h ⊢
    split
    · rename_i hw; rw [hw] at h; cases h
    · rename_i hw
      rw [hw] at h
      simp only at h
      cases hr : runOpsT P pol C fn fr ops l (putT t o.dst nov) H with
      | none => rw [hr] at h; cases h
      | some x => rw [hr] at h; rw [runOpsT_mono hC l _ _ _ hr]; exact h
    · rename_i hw
      rw [hw] at h
      simp only at h
      cases hop : opOne P pol C fn fr t H o with
      | none => rw [hop] at h; cases h
      | some x =>
        rw [hop] at h
        rw [opOne_mono hC hop]
        obtain ⟨e, t1, H1⟩ := x
        cases e with
        | normal =>
          simp only at h ⊢
          cases hr : runOpsT P pol C fn fr ops l t1 H1 with
          | none => rw [hr] at h; cases h
          | some y => rw [hr] at h; rw [runOpsT_mono hC l _ _ _ hr]; exact h
        | exit i => exact h
        | ret => exact h
        | panic v => exact h

theorem exec_mono (hC : CLe C C') (hL : LLe L L') : ∀ c : Code, BLe (exec P pol C L fn fr c) (exec P pol C' L' fn fr c) := by
  intro c
  induction c with
  | skip => exact fun _ _ _ h => h
  | region id ops draw =>
    intro t H r h
    cases draw with
    | true =>
      simp only [exec, if_true] at h ⊢
      cases hr : runOpsT P pol C fn fr ops ops.toList t H with
      | none => rw [hr] at h; cases h
      | some x => rw [hr] at h; rw [runOpsT_mono hC _ _ _ _ hr]; exact h
    | false =>
      simp only [exec, Bool.false_eq_true, if_false] at h ⊢
      exact runOps_mono hC _ _ _ _ h
  | seq a b iha ihb =>
    intro t H r h
    simp only [exec] at h ⊢
    cases hx : exec P pol C L fn fr a t H with
    | none => rw [hx] at h; cases h
    | some x =>
      rw [hx] at h
      rw [iha _ _ _ hx]
      obtain ⟨e, t1, H1⟩ := x
      cases e with
      | normal => exact ihb _ _ _ h
      | exit i => exact h
      | ret => exact h
      | panic v => exact h
  | cond c x y ihx ihy =>
    intro t H r h
    simp only [exec] at h ⊢
    cases hc : rho t c with
    | bool b =>
      rw [hc] at h
      cases b with
      | true => exact ihx _ _ _ h
      | false => exact ihy _ _ _ h
    | _ => rw [hc] at h; cases h
  | block id b ih =>
    intro t H r h
    simp only [exec] at h ⊢
    cases hx : exec P pol C L fn fr b t H with
    | none => rw [hx] at h; cases h
    | some x => rw [hx] at h; rw [ih _ _ _ hx]; exact h
  | loop b ih =>
    intro t H r h
    simp only [exec] at h ⊢
    refine hL _ _ ?_ _ _ _ h
    intro t H r h
    simp only at h ⊢
    split
    · rename_i hf; rw [hf] at h; exact ih _ _ _ h
    · rename_i hf; rw [hf] at h; cases h
  | _ => exact fun _ _ _ h => h

theorem callB_mono (hC : CLe C C') (hL : LLe L L') : CLe (callB P pol C L) (callB P pol C' L') := by
  intro f args H r h
  unfold callB at h ⊢
  cases hF : P.funcs[f]? with
  | none => rw [hF] at h; cases h
  | some F =>
    rw [hF] at h
    simp only at h ⊢
    cases hb : F.body with
    | none => rw [hb] at h; cases h
    | some c =>
      rw [hb] at h
      simp only at h ⊢
      cases hx : exec P pol C L f H.length c (args ++ List.replicate (F.ntmps - args.length) .bad) (H ++ [[]]) with
      | none => rw [hx] at h; cases h
      | some x => rw [hx] at h; rw [exec_mono hC hL c _ _ _ hx]; exact h

theorem loopN_mono {b b' : Body} (hb : BLe b b') : ∀ (n m : Nat), n ≤ m → BLe (loopN b n) (loopN b' m)
  | 0, _, _ => fun _ _ _ h => by cases h
  | n + 1, 0, hm => by omega
  | n + 1, m + 1, hm => by
    intro t H r h
    simp only [loopN] at h ⊢
    cases hx : b t H with
    | none => rw [hx] at h; cases h
    | some x =>
      rw [hx] at h
      rw [hb _ _ _ hx]
      obtain ⟨e, t1, H1⟩ := x
      cases e with
      | normal => exact loopN_mono hb n m (by omega) _ _ _ h
      | exit i => exact h
      | ret => exact h
      | panic v => exact h

theorem callN_mono : ∀ (n m : Nat), n ≤ m → CLe (callN P pol n) (callN P pol m)
  | 0, _, _ => fun _ _ _ _ h => by cases h
  | n + 1, 0, hm => by omega
  | n + 1, m + 1, hm => callB_mono (callN_mono n m (by omega)) fun b b' hb => loopN_mono hb n m (by omega)

end

open Classical in
/-- What comes of enough fuel. -/
noncomputable def lim {α : Type} (f : Nat → Option α) : Option α := if h : ∃ r n, f n = some r then some h.choose else none

theorem lim_some {α : Type} {f : Nat → Option α} {r : α} (hm : ∀ n m a, n ≤ m → f n = some a → f m = some a) : lim f = some r ↔ ∃ n, f n = some r := by
  unfold lim
  constructor
  · intro h
    split at h
    · rename_i hx; cases h; exact hx.choose_spec
    · cases h
  · rintro ⟨n, hn⟩
    have hx : ∃ r n, f n = some r := ⟨r, n, hn⟩
    rw [dif_pos hx]
    obtain ⟨k, hk⟩ := hx.choose_spec
    have h1 := hm _ (max n k) _ (Nat.le_max_left _ _) hn
    have h2 := hm _ (max n k) _ (Nat.le_max_right _ _) hk
    rw [h1] at h2
    exact congrArg some (Option.some.inj h2).symm

noncomputable def loopW (b : Body) : Body := fun t H => lim fun n => loopN b n t H
noncomputable def callW (P : Program) (pol : Pol) : Call := fun f args H => lim fun n => callN P pol n f args H

theorem loopW_some {b : Body} {t : List V} {H : Heap} {r : Ex × List V × Heap} : loopW b t H = some r ↔ ∃ n, loopN b n t H = some r :=
  lim_some fun n m _ hn h => loopN_mono (fun _ _ _ h => h) n m hn _ _ _ h

/-- A loop, round by round. -/
theorem loopW_eq (b : Body) (t : List V) (H : Heap) : loopW b t H = match b t H with
    | some (.normal, t, H) => loopW b t H
    | r => r := by
  have hiff : ∀ r, loopW b t H = some r ↔ (match b t H with
    | some (.normal, t, H) => loopW b t H
    | r => r) = some r := by
    intro r
    rw [loopW_some]
    constructor
    · rintro ⟨n, hn⟩
      cases n with
      | zero => cases hn
      | succ n =>
        simp only [loopN] at hn
        split
        · rename_i hb; rw [hb] at hn; exact loopW_some.2 ⟨n, hn⟩
        · rename_i x hne
          revert hn
          split
          · rename_i hb; exact absurd hb (hne _ _)
          · exact id
    · intro h
      split at h
      · rename_i hb
        obtain ⟨n, hn⟩ := loopW_some.1 h
        exact ⟨n + 1, by simp only [loopN, hb]; exact hn⟩
      · rename_i x hne
        refine ⟨1, ?_⟩
        simp only [loopN]
        exact h
  cases h1 : loopW b t H with
  | some r => exact ((hiff r).1 h1).symm
  | none =>
    cases h2 : (match b t H with
    | some (.normal, t, H) => loopW b t H
    | r => r) with
    | none => rfl
    | some r => rw [(hiff r).2 h2] at h1; cases h1

section
variable {P : Program} {pol : Pol} {fn fr : Nat}

theorem callW_some {f : FuncId} {args : List V} {H : Heap} {r : Rt × Heap} : callW P pol f args H = some r ↔ ∃ n, callN P pol n f args H = some r :=
  lim_some fun n m _ hn h => callN_mono n m hn _ _ _ _ h

theorem callN_W (n : Nat) : CLe (callN P pol n) (callW P pol) := fun _ _ _ _ h => callW_some.2 ⟨n, h⟩
theorem loopN_W (n : Nat) : LLe (fun b => loopN b n) loopW := fun _ _ hb _ _ _ h => loopW_some.2 ⟨n, loopN_mono hb n n (Nat.le_refl _) _ _ _ h⟩

theorem callW_sound (ok : Okay P pol) : CSound P (callW P pol) := by
  intro f args H r H' h
  obtain ⟨n, hn⟩ := callW_some.1 h
  exact callN_sound ok n f args H r H' hn

/-! ### Enough fuel -/

theorem callOp_cont {dst : Option Nat} {f : FuncId} {args : List V} {H : Heap} {r : Rt × Heap} (h : callOp pol (callW P pol) fn fr dst f args H = some r) : ∃ n, callOp pol (callN P pol n) fn fr dst f args H = some r := by
  unfold callOp at h
  split at h
  · rename_i g hg; exact ⟨0, by simp only [callOp, hg]; exact h⟩
  · rename_i hg
    split at h
    · rename_i hp
      split at h
      · rename_i ys hys
        cases hc : callW P pol f ys [] with
        | none => rw [hc] at h; cases h
        | some x =>
          obtain ⟨n, hn⟩ := callW_some.1 hc
          rw [hc] at h
          exact ⟨n, by simp only [callOp, hg, hp, if_true, hys, hn]; exact h⟩
      · cases h
    · rename_i hp
      cases ht : thinArgs pol fn f args with
      | none => rw [ht] at h; cases h
      | some ys =>
        rw [ht] at h
        obtain ⟨n, hn⟩ := callW_some.1 h
        exact ⟨n, by simp only [callOp, hg, hp, Bool.false_eq_true, if_false, ht, hn]⟩

theorem opOne_cont {t : List V} {H : Heap} {o : Oper} {r : Ex × List V × Heap} (h : opOne P pol (callW P pol) fn fr t H o = some r) : ∃ n, opOne P pol (callN P pol n) fn fr t H o = some r := by
  unfold opOne at h
  cases hev : evOp P (pol.mt fn) fr (hget H) (rho t) o with
  | none => rw [hev] at h; cases h
  | some st =>
    rw [hev] at h
    cases st with
    | val v w => exact ⟨0, by simp only [opOne, hev]; exact h⟩
    | panic v => exact ⟨0, by simp only [opOne, hev]; exact h⟩
    | call f args =>
      simp only at h
      cases hc : callOp pol (callW P pol) fn fr o.dst f args H with
      | none => rw [hc] at h; cases h
      | some x =>
        obtain ⟨n, hn⟩ := callOp_cont hc
        rw [hc] at h
        exact ⟨n, by simp only [opOne, hev, hn]; exact h⟩

theorem runOps_cont {ops : Array Oper} : ∀ (l : List Oper) (t : List V) (H : Heap) (r : Ex × List V × Heap), runOps P pol (callW P pol) fn fr ops l t H = some r → ∃ n, runOps P pol (callN P pol n) fn fr ops l t H = some r
  | [], _, _, _, h => ⟨0, h⟩
  | o :: l, t, H, r, h => by
    simp only [runOps] at h
    split at h
    · cases h
    · rename_i hw
      obtain ⟨n, hn⟩ := runOps_cont l _ _ _ h
      exact ⟨n, by simp only [runOps, hw]; exact hn⟩
    · rename_i hw
      cases hop : opOne P pol (callW P pol) fn fr t H o with
      | none => rw [hop] at h; cases h
      | some x =>
        rw [hop] at h
        obtain ⟨n, hn⟩ := opOne_cont hop
        obtain ⟨e, t1, H1⟩ := x
        cases e with
        | normal =>
          simp only at h
          obtain ⟨m, hm⟩ := runOps_cont l _ _ _ h
          refine ⟨max n m, ?_⟩
          simp only [runOps, hw]
          rw [opOne_mono (callN_mono n (max n m) (Nat.le_max_left _ _)) hn]
          exact runOps_mono (callN_mono m (max n m) (Nat.le_max_right _ _)) l _ _ _ hm
        | exit i => exact ⟨n, by simp only [runOps, hw, hn]; exact h⟩
        | ret => exact ⟨n, by simp only [runOps, hw, hn]; exact h⟩
        | panic v => exact ⟨n, by simp only [runOps, hw, hn]; exact h⟩

theorem runOpsT_cont {ops : Array Oper} : ∀ (l : List Oper) (t : List V) (H : Heap) (r : List V × Heap × List FP), runOpsT P pol (callW P pol) fn fr ops l t H = some r → ∃ n, runOpsT P pol (callN P pol n) fn fr ops l t H = some r
  | [], _, _, _, h => ⟨0, h⟩
  | o :: l, t, H, r, h => by
    simp only [runOpsT] at h
    split at h
    · cases h
    · rename_i hw
      cases hr : runOpsT P pol (callW P pol) fn fr ops l (putT t o.dst nov) H with
      | none => rw [hr] at h; cases h
      | some x =>
        rw [hr] at h
        obtain ⟨n, hn⟩ := runOpsT_cont l _ _ _ hr
        exact ⟨n, by simp only [runOpsT, hw, hn]; exact h⟩
    · rename_i hw
      cases hop : opOne P pol (callW P pol) fn fr t H o with
      | none => rw [hop] at h; cases h
      | some x =>
        rw [hop] at h
        obtain ⟨n, hn⟩ := opOne_cont hop
        obtain ⟨e, t1, H1⟩ := x
        cases e with
        | normal =>
          simp only at h
          cases hr : runOpsT P pol (callW P pol) fn fr ops l t1 H1 with
          | none => rw [hr] at h; cases h
          | some y =>
            rw [hr] at h
            obtain ⟨m, hm⟩ := runOpsT_cont l _ _ _ hr
            refine ⟨max n m, ?_⟩
            simp only [runOpsT, hw]
            rw [opOne_mono (callN_mono n (max n m) (Nat.le_max_left _ _)) hn]
            simp only
            rw [runOpsT_mono (callN_mono m (max n m) (Nat.le_max_right _ _)) l _ _ _ hm]
            exact h
        | exit i => cases h
        | ret => cases h
        | panic v => cases h

theorem exec_cont : ∀ (c : Code) (t : List V) (H : Heap) (r : Ex × List V × Heap), exec P pol (callW P pol) loopW fn fr c t H = some r →
    ∃ n, exec P pol (callN P pol n) (fun b => loopN b n) fn fr c t H = some r := by
  have up : ∀ (c : Code) (n m : Nat), n ≤ m → BLe (exec P pol (callN P pol n) (fun b => loopN b n) fn fr c) (exec P pol (callN P pol m) (fun b => loopN b m) fn fr c) :=
    fun c n m hn => exec_mono (callN_mono n m hn) (fun b b' hb => loopN_mono hb n m hn) c
  intro c
  induction c with
  | skip => exact fun _ _ _ h => ⟨0, h⟩
  | region id ops draw =>
    intro t H r h
    cases draw with
    | true =>
      simp only [exec, if_true] at h ⊢
      cases hr : runOpsT P pol (callW P pol) fn fr ops ops.toList t H with
      | none => rw [hr] at h; cases h
      | some x =>
        rw [hr] at h
        obtain ⟨n, hn⟩ := runOpsT_cont _ _ _ _ hr
        exact ⟨n, by rw [hn]; exact h⟩
    | false =>
      simp only [exec, Bool.false_eq_true, if_false] at h ⊢
      exact runOps_cont _ _ _ _ h
  | seq a b iha ihb =>
    intro t H r h
    simp only [exec] at h ⊢
    cases hx : exec P pol (callW P pol) loopW fn fr a t H with
    | none => rw [hx] at h; cases h
    | some x =>
      rw [hx] at h
      obtain ⟨n, hn⟩ := iha _ _ _ hx
      obtain ⟨e, t1, H1⟩ := x
      cases e with
      | normal =>
        obtain ⟨m, hm⟩ := ihb _ _ _ h
        refine ⟨max n m, ?_⟩
        rw [up a n (max n m) (Nat.le_max_left _ _) _ _ _ hn]
        exact up b m (max n m) (Nat.le_max_right _ _) _ _ _ hm
      | exit i => exact ⟨n, by rw [hn]; exact h⟩
      | ret => exact ⟨n, by rw [hn]; exact h⟩
      | panic v => exact ⟨n, by rw [hn]; exact h⟩
  | cond c x y ihx ihy =>
    intro t H r h
    simp only [exec] at h ⊢
    cases hc : rho t c with
    | bool b =>
      rw [hc] at h
      cases b with
      | true => exact ihx _ _ _ h
      | false => exact ihy _ _ _ h
    | _ => rw [hc] at h; cases h
  | block id b ih =>
    intro t H r h
    simp only [exec] at h ⊢
    cases hx : exec P pol (callW P pol) loopW fn fr b t H with
    | none => rw [hx] at h; cases h
    | some x =>
      rw [hx] at h
      obtain ⟨n, hn⟩ := ih _ _ _ hx
      exact ⟨n, by rw [hn]; exact h⟩
  | loop b ih =>
    intro t H r h
    simp only [exec] at h ⊢
    obtain ⟨k, hk⟩ := loopW_some.1 h
    have : ∀ (k : Nat) t H r, loopN (fun t H => match forget pol fn fr (fstRegion b) t H with
        | some (t, H) => exec P pol (callW P pol) loopW fn fr b t H
        | none => none) k t H = some r → ∃ n, ∀ m, n ≤ m → loopN (fun t H => match forget pol fn fr (fstRegion b) t H with
        | some (t, H) => exec P pol (callN P pol m) (fun b => loopN b m) fn fr b t H
        | none => none) k t H = some r := by
      intro k
      induction k with
      | zero => intro t H r h; cases h
      | succ k ihk =>
        intro t H r h
        simp only [loopN] at h ⊢
        cases hf : forget pol fn fr (fstRegion b) t H with
        | none => rw [hf] at h; cases h
        | some x =>
          rw [hf] at h
          simp only at h ⊢
          cases hx : exec P pol (callW P pol) loopW fn fr b x.1 x.2 with
          | none => rw [hx] at h; cases h
          | some y =>
            rw [hx] at h
            obtain ⟨n, hn⟩ := ih _ _ _ hx
            obtain ⟨e, t1, H1⟩ := y
            cases e with
            | normal =>
              obtain ⟨m, hm⟩ := ihk _ _ _ h
              refine ⟨max n m, fun q hq => ?_⟩
              rw [up b n q (Nat.le_trans (Nat.le_max_left _ _) hq) _ _ _ hn]
              exact hm q (Nat.le_trans (Nat.le_max_right _ _) hq)
            | exit i => exact ⟨n, fun q hq => by rw [up b n q hq _ _ _ hn]; exact h⟩
            | ret => exact ⟨n, fun q hq => by rw [up b n q hq _ _ _ hn]; exact h⟩
            | panic v => exact ⟨n, fun q hq => by rw [up b n q hq _ _ _ hn]; exact h⟩
    obtain ⟨n, hn⟩ := this k t H r hk
    refine ⟨max n k, ?_⟩
    exact loopN_mono (fun _ _ _ h => h) k (max n k) (Nat.le_max_right _ _) _ _ _ (hn (max n k) (Nat.le_max_left _ _))
  | _ => intro t H r h; cases h <;> exact ⟨0, rfl⟩

/-- A call is what its body comes to. -/
theorem callW_of {f : FuncId} {args : List V} {H : Heap} {r : Rt × Heap} (h : callB P pol (callW P pol) loopW f args H = some r) : callW P pol f args H = some r := by
  have : ∃ n, callB P pol (callN P pol n) (fun b => loopN b n) f args H = some r := by
    unfold callB at h ⊢
    cases hF : P.funcs[f]? with
    | none => rw [hF] at h; cases h
    | some F =>
      rw [hF] at h
      simp only at h ⊢
      cases hb : F.body with
      | none => rw [hb] at h; cases h
      | some c =>
        rw [hb] at h
        simp only at h ⊢
        cases hx : exec P pol (callW P pol) loopW f H.length c (args ++ List.replicate (F.ntmps - args.length) .bad) (H ++ [[]]) with
        | none => rw [hx] at h; cases h
        | some x =>
          rw [hx] at h
          obtain ⟨n, hn⟩ := exec_cont c _ _ _ hx
          exact ⟨n, by rw [hn]; exact h⟩
  obtain ⟨n, hn⟩ := this
  exact callW_some.2 ⟨n + 1, hn⟩

end
end Go.AM
