/- This file holds in one the texts An31, An32, An33; each says at its head what it proves. -/
import Derived.Test.YtjakoidjbcnhbaaGreatDoorT22
set_option linter.unusedSimpArgs false
set_option linter.unusedVariables false
section
/- The abstract machine, part 31: regions that draw their order, step by step; heaps behind others; appending. -/
namespace Go.AM

/-! ### Regions that draw -/
def fpCall (pol : Pol) (fn fr : Nat) (d : Option Nat) (ids : List (Nat × Nat)) (f : FuncId) : FP :=
  if (pol.prim f).isNone && pol.pure fn f then .quiet else if (pol.prim f).isNone && pol.lift fn f then (match d with
    | some d => .ids ids [(fr, d)]
    | none => .all) else .all
section
variable (P : Program) (pol : Pol) (C : Call) (L : MBody → Body) (fn fr : Nat)
def UCT (X : Option (Rt × Heap)) (d : Option Nat) (k : List It) (t : List V) : Out := match X with
  | some (.ret v, H) => U P pol C L fn fr k .normal (putT t d v) H
  | _ => none
def UST (q far : Bool) (ids : List (Nat × Nat)) (X : Option Step) (d : Option Nat) (a : Array Oper) (r : List Oper) (T : List FP) (k : List It) (t : List V) (H : Heap) : Out := match X with
  | some (.val v none) => U P pol C L fn fr (.opsT a r ((if q then .quiet else if far then .all else .ids ids []) :: T) :: k) .normal (putT t d v) H
  | some (.val v (some (f, s, o))) => U P pol C L fn fr (.opsT a r ((if q then .quiet else if far then .all else .ids ids [(f, s)]) :: T) :: k) .normal (putT t d v) (hset H f s o)
  | some (.round f s args) => UR P pol C L fn fr (C none (.yield f s :: args) H) d (.opsT a r ((if q then .quiet else .all) :: T) :: k) t
  | some (.call f args) => UCT P pol C L fn fr (callOp pol C fn fr d f args H) d (.opsT a r ((if q then .quiet else if far then .all else fpCall pol fn fr d ids f) :: T) :: k) t
  | _ => none
def UGT (v : Option V) (want : Bool) (o : Oper) (d : Option Nat) (a : Array Oper) (r : List Oper) (T : List FP) (k : List It) (t : List V) (H : Heap) : Out := match v with
  | some (.bool b) => if b = want then U P pol C L fn fr (.opsT a (o :: r) T :: k) .normal t H else U P pol C L fn fr (.opsT a r (.quiet :: T) :: k) .normal (putT t d nov) H
  | some (.tuple []) => U P pol C L fn fr (.opsT a r (.quiet :: T) :: k) .normal (putT t d nov) H
  | _ => none
end

section
variable {P : Program} {pol : Pol} {C : Call} {L : MBody → Body} {fn fr : Nat} {r : List Oper} {t : List V} {H : Heap} {d : Option Nat} {ty u : TypeId} {ps : String} {af : Array Edge} {x y z : Operand} {k : List It} {v : V} {a : Array Oper} {T : List FP}

theorem uct_ret : UCT P pol C L fn fr (some (.ret v, H)) d k t = U P pol C L fn fr k .normal (putT t d v) H := rfl
theorem ust_val {q far : Bool} {ids : List (Nat × Nat)} : UST P pol C L fn fr q far ids (some (.val v none)) d a r T k t H = U P pol C L fn fr (.opsT a r ((if q then .quiet else if far then .all else .ids ids []) :: T) :: k) .normal (putT t d v) H := rfl
theorem ust_set {q far : Bool} {ids : List (Nat × Nat)} {f s : Nat} {o : O} : UST P pol C L fn fr q far ids (some (.val v (some (f, s, o)))) d a r T k t H = U P pol C L fn fr (.opsT a r ((if q then .quiet else if far then .all else .ids ids [(f, s)]) :: T) :: k) .normal (putT t d v) (hset H f s o) := rfl
theorem ust_call {q far : Bool} {ids : List (Nat × Nat)} {f : FuncId} {args : List V} : UST P pol C L fn fr q far ids (some (.call f args)) d a r T k t H =
  UCT P pol C L fn fr (callOp pol C fn fr d f args H) d (.opsT a r ((if q then .quiet else if far then .all else fpCall pol fn fr d ids f) :: T) :: k) t := rfl
theorem ugt_tt {o : Oper} : UGT P pol C L fn fr (some (.bool true)) true o d a r T k t H = U P pol C L fn fr (.opsT a (o :: r) T :: k) .normal t H := rfl
theorem ugt_ff {o : Oper} : UGT P pol C L fn fr (some (.bool false)) false o d a r T k t H = U P pol C L fn fr (.opsT a (o :: r) T :: k) .normal t H := rfl
theorem ugt_tf {o : Oper} : UGT P pol C L fn fr (some (.bool true)) false o d a r T k t H = U P pol C L fn fr (.opsT a r (.quiet :: T) :: k) .normal (putT t d nov) H := rfl
theorem ugt_ft {o : Oper} : UGT P pol C L fn fr (some (.bool false)) true o d a r T k t H = U P pol C L fn fr (.opsT a r (.quiet :: T) :: k) .normal (putT t d nov) H := rfl

theorem ugt_no {want : Bool} {o : Oper} : UGT P pol C L fn fr (some (.tuple [])) want o d a r T k t H = U P pol C L fn fr (.opsT a r (.quiet :: T) :: k) .normal (putT t d nov) H := rfl
theorem opsT_cons {o : Oper} (hw : wantedV a t o = some true) : U P pol C L fn fr (.opsT a (o :: r) T :: k) .normal t H = match opOne P pol C fn fr t H o with
    | some (.normal, t1, H1) => U P pol C L fn fr (.opsT a r (fpOf P pol fn fr t H o :: T) :: k) .normal t1 H1
    | _ => none := by
  simp only [U, runOpsT, hw]
  cases opOne P pol C fn fr t H o with
  | none => rfl
  | some x =>
    obtain ⟨e, t1, H1⟩ := x
    cases e with
    | normal =>
      simp only
      cases runOpsT P pol C fn fr a r t1 H1 with
      | none => rfl
      | some y =>
        obtain ⟨t2, H2, T2⟩ := y
        simp only [Option.bind_some, List.reverse_cons, List.append_assoc, List.singleton_append]
    | _ => rfl

theorem w_opT {op : Op} : U P pol C L fn fr (.opsT a ({ dst := d, op := op, type := ty, pos := ps, after := af, guard := none } :: r) T :: k) .normal t H =
    UST P pol C L fn fr (quietOp op) (farOp op) (idsOf fr (rho t) { dst := d, op := op, type := ty, pos := ps, after := af, guard := none }) (evOp P (pol.mt fn) fr (hget H) (rho t) { dst := d, op := op, type := ty, pos := ps, after := af, guard := none }) d a r T k t H := by
  rw [opsT_cons rfl]
  simp only [opOne, fpOf]
  cases evOp P (pol.mt fn) fr (hget H) (rho t) { dst := d, op := op, type := ty, pos := ps, after := af, guard := none } with
  | none => rfl
  | some s =>
    cases s with
    | val v w =>
      cases w with
      | none => simp only [UST, wr]
      | some w => obtain ⟨f, s, o⟩ := w; simp only [UST, wr]
    | panic v => rfl
    | call f args =>
      simp only [UST, UCT, fpCall]
      cases callOp pol C fn fr d f args H with
      | none => rfl
      | some q => obtain ⟨q, H'⟩ := q; cases q <;> rfl
    | round f s args =>
      simp only [UST, UR]
      cases C none (.yield f s :: args) H with
      | none => rfl
      | some q => obtain ⟨q, H'⟩ := q; cases q with
        | ret v =>
          simp only
          cases quietOp op <;> cases farOp op <;> rfl
        | pan v => rfl

theorem w_guardT {op : Op} {j : Nat} {want : Bool} : U P pol C L fn fr (.opsT a ({ dst := d, op := op, type := ty, pos := ps, after := af, guard := some (j, want) } :: r) T :: k) .normal t H =
    UGT P pol C L fn fr (gd a t j) want { dst := d, op := op, type := ty, pos := ps, after := af, guard := none } d a r T k t H := by
  have e : wantedV a t { dst := d, op := op, type := ty, pos := ps, after := af, guard := some (j, want) } = match gd a t j with
    | some (.bool b) => some (b == want)
    | some (.tuple []) => some false
    | _ => none := rfl
  have hf : ∀ t, (match runOpsT P pol C fn fr a r (putT t d nov) H with
      | some (t', H', T) => some (t', H', FP.quiet :: T)
      | none => none).bind (fun x => if okT (Region.before a) (loud (T.reverse ++ x.2.2)) = true then U P pol C L fn fr k .normal x.1 x.2.1 else none) = U P pol C L fn fr (.opsT a r (.quiet :: T) :: k) .normal (putT t d nov) H := by
    intro t
    simp only [U]
    cases runOpsT P pol C fn fr a r (putT t d nov) H with
    | none => rfl
    | some y => simp only [Option.bind_some, List.reverse_cons, List.append_assoc, List.singleton_append]
  cases hg : gd a t j with
  | none => simp only [U, runOpsT, e, hg, UGT]; rfl
  | some v =>
    rw [hg] at e
    cases v with
    | bool b =>
      by_cases hb : b = want
      · subst hb
        have e' : wantedV a t { dst := d, op := op, type := ty, pos := ps, after := af, guard := some (j, b) } = some true := by rw [e]; simp
        rw [opsT_cons e']
        simp only [UGT, if_true]
        rw [opsT_cons rfl]
        rfl
      · have e' : wantedV a t { dst := d, op := op, type := ty, pos := ps, after := af, guard := some (j, want) } = some false := by rw [e]; simp [hb]
        simp only [UGT, hb, if_false]
        rw [← hf t]
        simp only [U, runOpsT, e']
        rfl
    | tuple l =>
      cases l with
      | nil =>
        simp only [UGT]
        rw [← hf t]
        simp only [U, runOpsT, e]
        rfl
      | cons x l => simp only [U, runOpsT, e, UGT]; rfl
    | _ => simp only [U, runOpsT, e, UGT]; rfl

theorem w_opsT_nil (h : okT (Region.before a) (loud T.reverse) = true) : U P pol C L fn fr (.opsT a [] T :: k) .normal t H = U P pol C L fn fr k .normal t H := by
  rw [u_opsT_nil, if_pos h]
end
theorem W.opsT {P : Program} {pol : Pol} {C : Call} {L : MBody → Body} {fn fr : Nat} {t : List V} {H : Heap} {a : Array Oper} {T : List FP} {k : List It} {Q : Ex → List V → Heap → Prop}
    (h : okT (Region.before a) (loud T.reverse) = true) (h2 : W (U P pol C L fn fr k .normal t H) Q) : W (U P pol C L fn fr (.opsT a [] T :: k) .normal t H) Q := by
  rw [w_opsT_nil h]; exact h2

/-! ### Heaps behind others -/
theorem hget_app (H G : Heap) (i s : Nat) : hget (H ++ G) (H.length + i) s = hget G i s := by
  unfold hget
  rw [List.getElem?_append_right (by omega), Nat.add_sub_cancel_left]
theorem hget_app0 (H G : Heap) (s : Nat) : hget (H ++ G) H.length s = hget G 0 s := hget_app H G 0 s
theorem hget_old (H G : Heap) {f : Nat} (h : f < H.length) (s : Nat) : hget (H ++ G) f s = hget H f s := by
  unfold hget
  rw [List.getElem?_append_left h]
theorem hget_zero (F : Frame) (G : Heap) (s : Nat) : hget (F :: G) 0 s = fget F s := rfl
theorem hget_succ (F : Frame) (G : Heap) (i s : Nat) : hget (F :: G) (i + 1) s = hget G i s := rfl
theorem modify_app {α : Type} (f : α → α) : ∀ (H G : List α) (i : Nat), (H ++ G).modify (H.length + i) f = H ++ G.modify i f
  | [], G, i => by simp
  | x :: H, G, i => by
    rw [List.cons_append, show (x :: H).length + i = (H.length + i) + 1 by simp; omega, List.modify_succ_cons, modify_app f H G i, List.cons_append]
theorem modify_old {α : Type} (f : α → α) : ∀ (H G : List α) (i : Nat), i < H.length → (H ++ G).modify i f = H.modify i f ++ G
  | [], G, i, h => by simp at h
  | x :: H, G, 0, h => by simp
  | x :: H, G, i + 1, h => by
    rw [List.cons_append, List.modify_succ_cons, modify_old f H G i (by simpa using h), List.modify_succ_cons, List.cons_append]
theorem hset_app (H G : Heap) (i s : Nat) (o : O) : hset (H ++ G) (H.length + i) s o = H ++ hset G i s o := by
  unfold hset
  exact modify_app _ H G i
theorem hset_app0 (H G : Heap) (s : Nat) (o : O) : hset (H ++ G) H.length s o = H ++ hset G 0 s o := hset_app H G 0 s o
theorem hset_zero (F : Frame) (G : Heap) (s : Nat) (o : O) : hset (F :: G) 0 s o = fset F s o :: G := rfl
theorem hset_succ (F : Frame) (G : Heap) (i s : Nat) (o : O) : hset (F :: G) (i + 1) s o = F :: hset G i s o := rfl
theorem hset_old (H G : Heap) {f : Nat} (h : f < H.length) (s : Nat) (o : O) : hset (H ++ G) f s o = hset H f s o ++ G := by
  unfold hset
  exact modify_old _ H G f h
theorem fget_nil (s : Nat) : fget [] s = none := rfl
theorem fset_nil (s : Nat) (o : O) : fset [] s o = [(s, o)] := rfl

def WF (H : Heap) : Prop := clearH (fun f _ => Nat.ble H.length f) H = true
theorem WF.nil : WF [] := rfl
theorem clearH_append (p : Nat → Nat → Bool) : ∀ (H G : Heap), clearH p (H ++ G) = (clearH p H && clearH p G)
  | [], G => by simp [clearH]
  | F :: H, G => by simp [clearH, clearH_append p H G, Bool.and_assoc]

mutual
theorem refs_mono {p q : Nat → Nat → Bool} (h : ∀ a b, p a b = true → q a b = true) : ∀ v : V, v.refs q = false → v.refs p = false
  | .gslice f s cs _ _, h2 => by
    simp only [V.refs, Bool.or_eq_false_iff] at h2 ⊢
    refine ⟨?_, refsL_mono h cs h2.2⟩
    cases hp : p f s with
    | false => rfl
    | true => rw [h _ _ hp] at h2; cases h2.1
  | .rptr cs _, h2 => by simp only [V.refs] at h2 ⊢; exact refsL_mono h cs h2
  | .ptr f s _, h2 | .mslice f s _ _ _ _, h2 | .map f s, h2 | .yield f s, h2 => by
    simp only [V.refs] at h2 ⊢
    cases hp : p f s with
    | false => rfl
    | true => rw [h _ _ hp] at h2; cases h2
  | .func _ a b, h2 => by simp only [V.refs, Bool.or_eq_false_iff] at h2 ⊢; exact ⟨refsL_mono h a h2.1, refsL_mono h b h2.2⟩
  | .face _ v, h2 => by simp only [V.refs] at h2 ⊢; exact refs_mono h v h2
  | .agg xs, h2 | .tuple xs, h2 => by simp only [V.refs] at h2 ⊢; exact refsL_mono h xs h2
  | .bad, _ | .bool _, _ | .int _ _, _ | .str _, _ | .nilptr, _ | .iptr _ _, _ | .nilslice, _ | .islice _ _ _, _ | .nilmap, _ | .nilfunc, _ | .nilface, _ | .byte, _ => rfl
theorem refsL_mono {p q : Nat → Nat → Bool} (h : ∀ a b, p a b = true → q a b = true) : ∀ l : List V, refsL q l = false → refsL p l = false
  | [], _ => rfl
  | x :: xs, h2 => by simp only [refsL, Bool.or_eq_false_iff] at h2 ⊢; exact ⟨refs_mono h x h2.1, refsL_mono h xs h2.2⟩
end
theorem refsM_mono {p q : Nat → Nat → Bool} (h : ∀ a b, p a b = true → q a b = true) : ∀ l : List (V × V), refsM q l = false → refsM p l = false
  | [], _ => rfl
  | (a, b) :: xs, h2 => by simp only [refsM, Bool.or_eq_false_iff] at h2 ⊢; exact ⟨⟨refs_mono h a h2.1.1, refs_mono h b h2.1.2⟩, refsM_mono h xs h2.2⟩
theorem orefs_mono {p q : Nat → Nat → Bool} (h : ∀ a b, p a b = true → q a b = true) (o : O) (h2 : o.refs q = false) : o.refs p = false := by
  cases o with
  | map es bs clk => exact refsM_mono h es h2
  | iter m since seen stepped =>
    cases m with
    | none => rfl
    | some x =>
      simp only [O.refs] at h2 ⊢
      cases hp : p x.1 x.2 with
      | false => rfl
      | true => rw [h _ _ hp] at h2; cases h2
  | cells xs => exact refsL_mono h xs h2
  | loop st pend fn rid t => exact refsL_mono h t h2
  | _ => rfl
theorem clearF_mono {p q : Nat → Nat → Bool} (h : ∀ a b, p a b = true → q a b = true) : ∀ F : Frame, clearF q F = true → clearF p F = true
  | [], _ => rfl
  | (s, o) :: r, h2 => by
    simp only [clearF, Bool.and_eq_true, Bool.not_eq_true'] at h2 ⊢
    exact ⟨orefs_mono h o h2.1, clearF_mono h r h2.2⟩
theorem clearH_mono {p q : Nat → Nat → Bool} (h : ∀ a b, p a b = true → q a b = true) : ∀ H : Heap, clearH q H = true → clearH p H = true
  | [], _ => rfl
  | F :: r, h2 => by
    simp only [clearH, Bool.and_eq_true] at h2 ⊢
    exact ⟨clearF_mono h F h2.1, clearH_mono h r h2.2⟩
theorem ble_mono {n m : Nat} (h : n ≤ m) (a b : Nat) : (fun f (_ : Nat) => Nat.ble m f) a b = true → (fun f (_ : Nat) => Nat.ble n f) a b = true := by
  simp only [Nat.ble_eq]; omega

theorem WF.app {H G : Heap} (h : WF H) (h2 : clearH (fun f _ => Nat.ble (H.length + G.length) f) G = true) : WF (H ++ G) := by
  unfold WF
  rw [clearH_append, List.length_append, h2, Bool.and_true]
  exact clearH_mono (ble_mono (by omega)) H h

theorem popF_drop {H G : Heap} {v : V} (hv : v.refs (fun f _ => Nat.ble H.length f) = false) (hw : WF H) : popF H.length v (H ++ G) = H := by
  unfold popF
  have e : (H ++ G).take H.length = H := by simp
  rw [hv, e]
  unfold WF at hw
  rw [hw]
  rfl
theorem popF_keep {b : Nat} {H : Heap} {v : V} (hv : v.refs (fun f _ => Nat.ble b f) = true) : popF b v H = H := by
  unfold popF
  rw [hv]
  rfl

/-! ### Appending -/
section
variable {P : Program} {t t2 e e2 : TypeId} {n by_ m : Nat} {z cs : List V} {x : V} {g : Get} {mt : Nat → Bool} {fr : Nat} {dst : Option Nat} {d : Nat}
theorem app_none (hu : P.underlying t = some (.slice e)) (hs : sz P e = some n) (hb : byt P e = some by_) (hz : zeroCells P e = some z) (hzl : z.length = n) (ht : P.underlying t2 = some (.slice e2)) {s : V} (hsl : isSlice s = true)
    (hx : sliceCells g n x = some (cs, 0)) : appendV P mt fr g dst t t2 s x = some (.val s none) := by
  simp only [appendV, hu, hs, hb, hz, hzl, if_true, appSrc, ht, hx, hsl]
theorem app_nil (hu : P.underlying t = some (.slice e)) (hs : sz P e = some n) (hb : byt P e = some by_) (hz : zeroCells P e = some z) (hzl : z.length = n) (ht : P.underlying t2 = some (.slice e2))
    (hx : sliceCells g n x = some (cs, m)) (hm : 0 < m) (hr : roomy m by_ = true) : appendV P mt fr g dst t t2 .nilslice x = grown mt g fr dst cs cs m n := by
  obtain ⟨m, rfl⟩ : ∃ k, m = k + 1 := ⟨m - 1, by omega⟩
  simp only [appendV, hu, hs, hb, hz, hzl, if_true, appSrc, ht, hx, appendTo, hr]
theorem app_full {c0 : List V} {k : Nat} (hu : P.underlying t = some (.slice e)) (hs : sz P e = some n) (hb : byt P e = some by_) (hz : zeroCells P e = some z) (hzl : z.length = n) (ht : P.underlying t2 = some (.slice e2))
    (hx : sliceCells g n x = some (cs, m)) (hm : 0 < m) (hc : c0.length = k * n) (hr : roomy (k + m) by_ = true) : appendV P mt fr g dst t t2 (.islice c0 k true) x = grown mt g fr dst (c0 ++ cs) cs (k + m) n := by
  obtain ⟨m, rfl⟩ : ∃ k, m = k + 1 := ⟨m - 1, by omega⟩
  simp only [appendV, hu, hs, hb, hz, hzl, if_true, appSrc, ht, hx, appendTo, hr, hc, and_self]
theorem app_more {c0 : List V} {f s k : Nat} (hu : P.underlying t = some (.slice e)) (hs : sz P e = some n) (hb : byt P e = some by_) (hz : zeroCells P e = some z) (hzl : z.length = n) (ht : P.underlying t2 = some (.slice e2))
    (hx : sliceCells g n x = some (cs, m)) (hm : 0 < m) (hr : roomy (k + m) by_ = true) (_ : pureL cs = true) (hsc : cs.all V.scalar = true) (hg : g f s = some (.grow k)) :
    appendV P mt fr g dst t t2 (.gslice f s c0 k n) x = some (.val (.gslice f s (c0 ++ cs) (k + m) n) (some (f, s, .grow (k + m)))) := by
  obtain ⟨m, rfl⟩ : ∃ k, m = k + 1 := ⟨m - 1, by omega⟩
  simp only [appendV, hu, hs, hb, hz, hzl, if_true, appSrc, ht, hx, appendTo, hr, hsc, hg, and_self]
theorem grown_mt {chk : List V} (hd : mt d = true) (hsc : cs.all V.scalar = true) (hg : g fr d = none) : grown mt g fr (some d) cs chk m n = some (.val (.mslice fr d 0 m none n) (some (fr, d, .cells cs))) := by
  simp only [grown, hd, if_true, hsc, new, hg]
theorem grown_im {chk : List V} (hd : mt d = false) (_ : pureL chk = true) (hg : g fr d = none) : grown mt g fr (some d) cs chk m n = some (.val (.gslice fr d cs m n) (some (fr, d, .grow m))) := by
  simp only [grown, hd, Bool.false_eq_true, if_false, new, hg]
end
theorem bi_append {P : Program} {mt : Nat → Bool} {fr : Nat} {g : Get} {d : Option Nat} {t t2 : TypeId} {s x : V} : builtinV P mt fr g d .append #[t, t2] [s, x] = appendV P mt fr g d t t2 s x := rfl
theorem bi_copy {P : Program} {mt : Nat → Bool} {fr : Nat} {g : Get} {d : Option Nat} {t t2 : TypeId} {s x : V} : builtinV P mt fr g d .copy #[t, t2] [s, x] = copyV P g t s x := rfl
theorem roomy_of {m by_ : Nat} (h : m * by_ ≤ 35184372088832) (h2 : m ≤ 35184372088832) : roomy m by_ = true := by
  simp [roomy, h, h2]
theorem scalar_ofBytes (l : List UInt8) : (ofBytes l).all V.scalar = true := by simp [ofBytes, V.scalar]
theorem scalar_ofInts (l : List Int) : (ofInts l).all V.scalar = true := by simp [ofInts, V.scalar]

theorem IsSl.id? {esz n : Nat} {v : V} {cells : List V} (h : IsSl esz v cells n) : v.id? = none := by
  obtain ⟨_, ⟨rfl, _⟩ | ⟨f, rfl⟩⟩ := h <;> rfl
theorem IsSl.isSl {esz n : Nat} {v : V} {cells : List V} (h : IsSl esz v cells n) : isSlice v = true := by
  obtain ⟨_, ⟨rfl, _⟩ | ⟨f, rfl⟩⟩ := h <;> rfl
end Go.AM
end
section
/- The abstract machine, part 32: bytes and numbers in objects, frozen and written. -/
namespace Go.AM

theorem frzL_ofBytes (g : Get) (n : Nat) : ∀ l : List UInt8, frzL (frz g (n + 1)) (ofBytes l) = some (ofBytes l)
  | [] => rfl
  | b :: l => by
    have := frzL_ofBytes g n l
    simp only [ofBytes, List.map_cons] at this ⊢
    exact frzL_cons rfl this
theorem frzL_ofInts (g : Get) (n : Nat) : ∀ l : List Int, frzL (frz g (n + 1)) (ofInts l) = some (ofInts l)
  | [] => rfl
  | b :: l => by
    have := frzL_ofInts g n l
    simp only [ofInts, List.map_cons] at this ⊢
    exact frzL_cons rfl this
theorem frz_bytes {g : Get} {f s o len m : Nat} {cap : Option Nat} {xs : List V} {l : List UInt8} (hg : g f s = some (.cells xs)) (hx : (xs.drop o).take len = ofBytes l) (hl : o + len ≤ xs.length) :
    frz g (m + 2) (.mslice f s o len cap 1) = some (.islice (ofBytes l) len (cap == some len)) := by
  show (match g f s with
    | some (.cells xs) => if o + len * 1 ≤ xs.length then (frzL (frz g (m + 1)) ((xs.drop o).take (len * 1))).map fun cs => V.islice cs len (cap == some len) else none
    | _ => none) = _
  rw [hg]
  simp only [Nat.mul_one, if_pos hl, hx, frzL_ofBytes, Option.map_some]
theorem frz_bytes0 {g : Get} {f s m : Nat} {cap : Option Nat} {l : List UInt8} (hg : g f s = some (.cells (ofBytes l))) :
    frz g (m + 2) (.mslice f s 0 l.length cap 1) = some (.islice (ofBytes l) l.length (cap == some l.length)) :=
  frz_bytes hg (by rw [List.drop_zero, List.take_of_length_le (by rw [ofBytes_length]; omega)]) (by rw [ofBytes_length]; omega)
theorem frz_tup {g : Get} {cs cs' : List V} (h : frzL (frz g 11) cs = some cs') : frz g depth (.tuple cs) = some (.tuple cs') := by
  show (frzL (frz g 11) cs).map V.tuple = _
  rw [h]; rfl

theorem splice_byte (l : List UInt8) (i : Nat) (b : UInt8) (h : i < l.length) : splice (ofBytes l) i [.int .u8 b.toNat] = ofBytes (l.set i b) := by
  simp only [splice, ofBytes, List.length_singleton, List.map_set]
  rw [List.set_eq_take_append_cons_drop, if_pos (by simpa using h)]
  simp
theorem splice_int (l : List Int) (i : Nat) (b : Int) (h : i < l.length) : splice (ofInts l) i [.int .i64 b] = ofInts (l.set i b) := by
  simp only [splice, ofInts, List.length_singleton, List.map_set]
  rw [List.set_eq_take_append_cons_drop, if_pos (by simpa using h)]
  simp

section
variable {P : Program} {u e : TypeId} {g : Get}
theorem store_byte {mt : Nat → Bool} {fr : Nat} {r : Operand → V} {dst : Option Nat} {ty : TypeId} {ps : String} {af : Array Edge} {a x : Operand} {f s o : Nat} {b : UInt8} {l : List UInt8} (hs : sz P u = some 1) (ha : r a = .ptr f s o) (hx : r x = .int .u8 b.toNat)
    (hg : g f s = some (.cells (ofBytes l))) (ho : o < l.length) :
    evOp P mt fr g r { dst := dst, op := .store u a x, type := ty, pos := ps, after := af, guard := none } = some (.val .bad (some (f, s, .cells (ofBytes (l.set o b))))) := by
  simp only [evOp, ha, hx, V.cells, hs, hg, List.length_singleton, ofBytes_length, true_and]
  rw [if_pos (by omega), splice_byte _ _ _ ho]
theorem at_m (hu : P.underlying u = some (.slice e)) {q : Nat} (hs : sz P e = some q) {f s o len : Nat} {cap : Option Nat} {k : IntKind} {i : Int} (h0 : 0 ≤ i) (hi : i < len) : indexAddrV P u (.mslice f s o len cap q) (.int k i) = some (.ptr f s (o + i.toNat * q)) := by
  simp only [indexAddrV, hu, hs]
  rw [if_pos ⟨h0, hi, trivial⟩]
theorem at_g (hu : P.underlying u = some (.slice e)) {q : Nat} (hs : sz P e = some q) {f s len : Nat} {cs : List V} {k : IntKind} {i : Int} (hp : pureL cs = true) (h0 : 0 ≤ i) (hi : i < len) : indexAddrV P u (.gslice f s cs len q) (.int k i) = some (.iptr cs (i.toNat * q)) := by
  simp only [indexAddrV, hu, hs, hp, if_true]
  rw [if_pos ⟨h0, hi, trivial⟩]
theorem at_r (hu : P.underlying u = some (.slice e)) {q : Nat} (hs : sz P e = some q) {f s len : Nat} {cs : List V} {k : IntKind} {i : Int} (hp : pureL cs = false) (h0 : 0 ≤ i) (hi : i < len) : indexAddrV P u (.gslice f s cs len q) (.int k i) = some (.rptr cs (i.toNat * q)) := by
  simp only [indexAddrV, hu, hs, hp, Bool.false_eq_true, if_false]
  rw [if_pos ⟨h0, hi, trivial⟩]
theorem len_m (hu : P.underlying u = some (.slice e)) {f s o len esz : Nat} {cap : Option Nat} : ∀ g, lenV P g u (.mslice f s o len cap esz) = some (.int .i64 len) := fun g => by simp only [lenV, hu]
theorem len_g (hu : P.underlying u = some (.slice e)) {f s len esz : Nat} {cs : List V} : ∀ g, lenV P g u (.gslice f s cs len esz) = some (.int .i64 len) := fun g => by simp only [lenV, hu]
end
theorem fset_fset (s : Nat) (o o' : O) : ∀ F : Frame, fset (fset F s o) s o' = fset F s o'
  | [] => by simp [fset]
  | (k, p) :: r => by
    simp only [fset]
    by_cases h : s = k
    · simp [h, fset]
    · simp only [h, if_false]
      by_cases h2 : s < k
      · simp [h2, fset]
      · simp only [h2, if_false, fset, h, fset_fset s o o' r]
theorem hset_hset (H : Heap) (f s : Nat) (o o' : O) : hset (hset H f s o) f s o' = hset H f s o' := by
  unfold hset
  rw [List.modify_modify_eq]
  congr 1
  funext F
  exact fset_fset s o o' F
theorem fset_clear {p : Nat → Nat → Bool} {s : Nat} {o : O} (h : o.refs p = false) : ∀ F : Frame, clearF p F = true → clearF p (fset F s o) = true
  | [], _ => by simp [fset, clearF, h]
  | (k, q) :: r, h2 => by
    simp only [clearF, Bool.and_eq_true, Bool.not_eq_true'] at h2
    simp only [fset]
    split
    · simp [clearF, h, h2.2]
    · split
      · simp [clearF, h, h2.1, h2.2]
      · simp [clearF, h2.1, fset_clear h r h2.2]
theorem hset_clear {p : Nat → Nat → Bool} {s : Nat} {o : O} (h : o.refs p = false) : ∀ (H : Heap) (f : Nat), clearH p H = true → clearH p (hset H f s o) = true
  | [], f, _ => by simp [hset, clearH]
  | F :: H, 0, h2 => by
    simp only [clearH, Bool.and_eq_true] at h2
    simp [hset, clearH, fset_clear h F h2.1, h2.2]
  | F :: H, f + 1, h2 => by
    simp only [clearH, Bool.and_eq_true] at h2
    have := hset_clear (s := s) h H f h2.2
    simp only [hset] at this ⊢
    simp [clearH, h2.1, this]
theorem WF.hset {H : Heap} {f s : Nat} {o : O} (h : WF H) (ho : o.refs (fun f _ => Nat.ble H.length f) = false) : WF (hset H f s o) := by
  unfold WF
  rw [hset_length]
  exact hset_clear ho H f h
theorem hget_hset_self {H : Heap} {f s : Nat} {o : O} (h : f < H.length) : hget (hset H f s o) f s = some o := by
  rw [hget_hset H f s o h, if_pos ⟨rfl, rfl⟩]
theorem hget_hset_else {H : Heap} {f s f' s' : Nat} {o : O} (h : f < H.length) (hn : ¬ (f' = f ∧ s' = s)) : hget (hset H f s o) f' s' = hget H f' s' := by
  rw [hget_hset H f s o h, if_neg hn]

theorem refsL_ofBytes (p : Nat → Nat → Bool) : ∀ l : List UInt8, refsL p (ofBytes l) = false
  | [] => rfl
  | b :: l => by
    have := refsL_ofBytes p l
    simp only [ofBytes, List.map_cons, refsL, V.refs, Bool.false_or] at this ⊢
    exact this
theorem refsL_ofInts (p : Nat → Nat → Bool) : ∀ l : List Int, refsL p (ofInts l) = false
  | [] => rfl
  | b :: l => by
    have := refsL_ofInts p l
    simp only [ofInts, List.map_cons, refsL, V.refs, Bool.false_or] at this ⊢
    exact this
theorem IsSl.cells1 {esz n : Nat} {v : V} {cells : List V} (h : IsSl esz v cells n) : v.cells = some [v] := by
  obtain ⟨_, ⟨rfl, _⟩ | ⟨f, rfl⟩⟩ := h <;> rfl
theorem cells_int {k : IntKind} {n : Int} : (V.int k n).cells = some [.int k n] := rfl
theorem cells_bool {b : Bool} : (V.bool b).cells = some [.bool b] := rfl
theorem cells_str {s : List UInt8} : (V.str s).cells = some [.str s] := rfl
theorem cells_nilptr : V.nilptr.cells = some [.nilptr] := rfl
theorem cells_ptr {f s o : Nat} : (V.ptr f s o).cells = some [.ptr f s o] := rfl
theorem cells_iptr {c : List V} {o : Nat} : (V.iptr c o).cells = some [.iptr c o] := rfl
theorem cells_rptr {c : List V} {o : Nat} : (V.rptr c o).cells = some [.rptr c o] := rfl
theorem cells_nilslice : V.nilslice.cells = some [.nilslice] := rfl
theorem cells_islice {c : List V} {n : Nat} {f : Bool} : (V.islice c n f).cells = some [.islice c n f] := rfl
theorem cells_gslice {f s : Nat} {c : List V} {n e : Nat} : (V.gslice f s c n e).cells = some [.gslice f s c n e] := rfl
theorem cells_mslice {f s o n e : Nat} {c : Option Nat} : (V.mslice f s o n c e).cells = some [.mslice f s o n c e] := rfl
theorem cells_nilmap : V.nilmap.cells = some [.nilmap] := rfl
theorem cells_map {f s : Nat} : (V.map f s).cells = some [.map f s] := rfl
theorem cells_func {f : Fn} {a b : List V} : (V.func f a b).cells = some [.func f a b] := rfl
theorem cells_nilfunc : V.nilfunc.cells = some [.nilfunc] := rfl
theorem cells_nilface : V.nilface.cells = some [.nilface] := rfl
theorem cells_face {t : TypeId} {v : V} : (V.face t v).cells = some [.face t v] := rfl
theorem eq_islice {P : Program} {t e : TypeId} (hu : P.underlying t = some (.slice e)) {x y : Operand} {cs : List V} {n : Nat} {f : Bool} : binV P .eql t x y (.islice cs n f) .nilslice = some (.bool false) := by
  simp [binV, eqOp, hu, nilKind, eqNil, V.isNil]
theorem eq_nilslice {P : Program} {t e : TypeId} (hu : P.underlying t = some (.slice e)) {x y : Operand} : binV P .eql t x y .nilslice .nilslice = some (.bool true) := by
  simp [binV, eqOp, hu, nilKind, eqNil, V.isNil]
theorem gb {l : List UInt8} {i : Nat} (h : i < l.length) : (ofBytes l)[(i : Int).toNat * 1]? = some (.int .u8 l[i].toNat) := by simp [ofBytes_get, h]
theorem gi {l : List Int} {i : Nat} (h : i < l.length) : (ofInts l)[(i : Int).toNat * 1]? = some (.int .i64 l[i]) := by simp [ofInts_get, h]
theorem u8_eq (a b : UInt8) : ((a.toNat : Int) = (b.toNat : Int)) ↔ a = b := ⟨fun h => UInt8.toNat_inj.1 (by omega), fun h => by rw [h]⟩
theorem u8_beq (a b : UInt8) : ((a.toNat : Int) == (b.toNat : Int)) = (a == b) := by
  rw [Bool.eq_iff_iff, beq_iff_eq, beq_iff_eq, u8_eq]
theorem u8_bne (a b : UInt8) : ((a.toNat : Int) != (b.toNat : Int)) = (a != b) := by
  simp only [bne, u8_beq]
theorem wrap_i64 {n : Int} (h1 : -9223372036854775808 ≤ n) (h2 : n ≤ 9223372036854775807) : (IntKind.i64).wrap n = n := by
  rw [IntKind.wrap_i64]; omega
theorem wrap_add1 {i : Nat} (h : i < 9223372036854775807) : (IntKind.i64).wrap ((i : Int) + 1) = ((i + 1 : Nat) : Int) := by
  rw [wrap_i64] <;> omega
end Go.AM
end
section
/- The abstract machine, part 33: parts of slices that may change, copies. -/
namespace Go.AM
section
variable {P : Program} {u e : TypeId} {g : Get}
theorem cut_from (hu : P.underlying u = some (.slice e)) {q : Nat} (hs : sz P e = some q) {f s o len c : Nat} {w : Nat} {k : IntKind} (h : w ≤ len) (hc : len ≤ c) :
    ∀ g, sliceV P g u (.mslice f s o len (some c) q) (some (.int k w)) none none = some (.mslice f s (if c = w then o else o + w * q) (len - w) (some (c - w)) q) := by
  intro g
  simp only [sliceV, optInt, hu, hs, if_true, cutM, cuts, Option.getD_none, Option.getD_some]
  rw [if_pos ⟨by omega, by omega, by omega, by omega, by omega, by omega, by simp⟩]
  simp
theorem cut_to (hu : P.underlying u = some (.slice e)) {q : Nat} (hs : sz P e = some q) {f s o len c : Nat} {w : Nat} {k k' : IntKind} (h : w ≤ len) (hc : len ≤ c) (hp : 0 < c) :
    ∀ g, sliceV P g u (.mslice f s o len (some c) q) (some (.int k' 0)) (some (.int k w)) none = some (.mslice f s o w (some c) q) := by
  intro g
  simp only [sliceV, optInt, hu, hs, if_true, cutM, cuts, Option.getD_none, Option.getD_some]
  rw [if_pos ⟨by omega, by omega, by omega, by omega, by omega, by omega, by simp⟩]
  simp

theorem splice_bytes (xs m : List UInt8) (o : Nat) : splice (ofBytes xs) o (ofBytes m) = ofBytes (xs.take o ++ m ++ xs.drop (o + m.length)) := by
  simp [splice, ofBytes]
theorem copy_bytes (hu : P.underlying u = some (.slice e)) (hs : sz P e = some 1) {f s o n : Nat} {cap : Option Nat} {xs m : List UInt8} {v : V} (hg : g f s = some (.cells (ofBytes xs))) (ho : o + n ≤ xs.length) (hv : sliceCells g 1 v = some (ofBytes m, m.length)) (hns : ∀ l, v ≠ .str l) :
    copyV P g u (.mslice f s o n cap 1) v = some (.val (.int .i64 (min m.length n : Nat)) (some (f, s, .cells (ofBytes (xs.take o ++ m.take (min m.length n) ++ xs.drop (o + min m.length n)))))) := by
  have e1 : copySrc g 1 v = some (ofBytes m, m.length) := by
    cases v with
    | str l => exact absurd rfl (hns l)
    | _ => exact hv
  have e2 : ((ofBytes m).take (min m.length n * 1)).all V.scalar = true := by rw [ofBytes_take]; exact scalar_ofBytes _
  simp only [copyV, hu, hs, e1, copyTo, if_true, hg, Nat.mul_one, ofBytes_length]
  rw [Nat.mul_one] at e2
  rw [if_pos ⟨ho, e2⟩, ofBytes_take, splice_bytes]
  simp only [List.length_take]
  rw [show min (min m.length n) m.length = min m.length n by omega]
end
def FP.kind : FP → Nat
  | .quiet => 0
  | .ids _ [] => 1
  | _ => 2
def okK (bef : Array Nat) : List (Nat × Nat) → Bool
  | [] => true
  | (a, i) :: r => r.all (fun (b, j) => (bef.getD j 0).testBit i || (Nat.ble a 1 && Nat.ble b 1)) && okK bef r
theorem indep_kind : ∀ a b : FP, Nat.ble a.kind 1 = true → Nat.ble b.kind 1 = true → a.indep b = true
  | .quiet, _, _, _ => rfl
  | .ids _ [], .quiet, _, _ => rfl
  | .ids _ (_ :: _), .quiet, _, _ => rfl
  | .all, .quiet, _, _ => rfl
  | .ids _ [], .ids _ [], _, _ => rfl
  | .ids _ (_ :: _), _, h, _ => by cases h
  | .all, _, h, _ => by cases h
  | _, .ids _ (_ :: _), _, h => by cases h
  | _, .all, _, h => by cases h
theorem okT_of_okK (bef : Array Nat) : ∀ T : List (FP × Nat), okK bef (T.map fun x => (x.1.kind, x.2)) = true → okT bef T = true
  | [], _ => rfl
  | (a, i) :: r, h => by
    simp only [List.map_cons, okK, Bool.and_eq_true, List.all_eq_true] at h
    simp only [okT, Bool.and_eq_true, List.all_eq_true]
    refine ⟨fun x hx => ?_, okT_of_okK bef r h.2⟩
    have := h.1 (x.1.kind, x.2) (List.mem_map.2 ⟨x, hx, rfl⟩)
    simp only [Bool.or_eq_true, Bool.and_eq_true] at this ⊢
    exact this.imp id fun ⟨p, q⟩ => indep_kind _ _ p q
theorem W.opsK {P : Program} {pol : Pol} {C : Call} {L : MBody → Body} {fn fr : Nat} {t : List V} {H : Heap} {a : Array Oper} {T : List FP} {k : List It} {Q : Ex → List V → Heap → Prop}
    (h : okK (Region.before a) ((loud T.reverse).map fun x => (x.1.kind, x.2)) = true) (h2 : W (U P pol C L fn fr k .normal t H) Q) : W (U P pol C L fn fr (.opsT a [] T :: k) .normal t H) Q :=
  W.opsT (okT_of_okK _ _ h) h2
theorem IsSl.notStr {esz n : Nat} {v : V} {cells : List V} (h : IsSl esz v cells n) (l : List UInt8) : v ≠ .str l := by
  obtain ⟨_, ⟨rfl, _⟩ | ⟨f, rfl⟩⟩ := h <;> simp
end Go.AM
end
