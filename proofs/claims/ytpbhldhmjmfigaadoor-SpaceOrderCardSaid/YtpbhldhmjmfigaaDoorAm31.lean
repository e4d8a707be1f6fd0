/- The abstract machine, part 31: regions that draw their order, step by step; heaps behind others; appending. -/
import Derived.Test.YtpbhldhmjmfigaaDoorAm30
set_option linter.unusedSimpArgs false
set_option linter.unusedVariables false
namespace Go.AM

/-! ### Regions that draw -/
section
variable (P : Program) (pol : Pol) (C : Call) (L : Body → Body) (fn fr : Nat)
/-- A call's answer comes, in a region that draws. -/
def UCT (X : Option (Rt × Heap)) (d : Option Nat) (k : List It) (t : List V) : Out := match X with
  | some (.ret v, H) => U P pol C L fn fr k .normal (putT t d v) H
  | _ => none
/-- A step comes, in a region that draws. -/
def UST (q : Bool) (ids : List (Nat × Nat)) (X : Option Step) (d : Option Nat) (a : Array Oper) (r : List Oper) (T : List FP) (k : List It) (t : List V) (H : Heap) : Out := match X with
  | some (.val v none) => U P pol C L fn fr (.opsT a r ((if q then .quiet else .ids ids []) :: T) :: k) .normal (putT t d v) H
  | some (.val v (some (f, s, o))) => U P pol C L fn fr (.opsT a r ((if q then .quiet else .ids ids [(f, s)]) :: T) :: k) .normal (putT t d v) (hset H f s o)
  | some (.call f args) => UCT P pol C L fn fr (callOp pol C fn fr d f args H) d (.opsT a r ((if q then .quiet else if (pol.prim f).isNone && pol.pure fn f then .quiet else .all) :: T) :: k) t
  | _ => none
/-- A guard, in a region that draws. -/
def UGT (v : Option V) (want : Bool) (o : Oper) (d : Option Nat) (a : Array Oper) (r : List Oper) (T : List FP) (k : List It) (t : List V) (H : Heap) : Out := match v with
  | some (.bool b) => if b = want then U P pol C L fn fr (.opsT a (o :: r) T :: k) .normal t H else U P pol C L fn fr (.opsT a r (.quiet :: T) :: k) .normal (putT t d nov) H
  | some (.tuple []) => U P pol C L fn fr (.opsT a r (.quiet :: T) :: k) .normal (putT t d nov) H
  | _ => none
end

section
variable {P : Program} {pol : Pol} {C : Call} {L : Body → Body} {fn fr : Nat} {r : List Oper} {t : List V} {H : Heap} {d : Option Nat} {ty u : TypeId} {ps : String} {af : Array Edge} {x y z : Operand} {k : List It} {v : V} {a : Array Oper} {T : List FP}

theorem uct_ret : UCT P pol C L fn fr (some (.ret v, H)) d k t = U P pol C L fn fr k .normal (putT t d v) H := rfl
theorem ust_val {q : Bool} {ids : List (Nat × Nat)} : UST P pol C L fn fr q ids (some (.val v none)) d a r T k t H = U P pol C L fn fr (.opsT a r ((if q then .quiet else .ids ids []) :: T) :: k) .normal (putT t d v) H := rfl
theorem ust_set {q : Bool} {ids : List (Nat × Nat)} {f s : Nat} {o : O} : UST P pol C L fn fr q ids (some (.val v (some (f, s, o)))) d a r T k t H = U P pol C L fn fr (.opsT a r ((if q then .quiet else .ids ids [(f, s)]) :: T) :: k) .normal (putT t d v) (hset H f s o) := rfl
theorem ust_call {q : Bool} {ids : List (Nat × Nat)} {f : FuncId} {args : List V} : UST P pol C L fn fr q ids (some (.call f args)) d a r T k t H =
  UCT P pol C L fn fr (callOp pol C fn fr d f args H) d (.opsT a r ((if q then .quiet else if (pol.prim f).isNone && pol.pure fn f then .quiet else .all) :: T) :: k) t := rfl
theorem ugt_tt {o : Oper} : UGT P pol C L fn fr (some (.bool true)) true o d a r T k t H = U P pol C L fn fr (.opsT a (o :: r) T :: k) .normal t H := rfl
theorem ugt_ff {o : Oper} : UGT P pol C L fn fr (some (.bool false)) false o d a r T k t H = U P pol C L fn fr (.opsT a (o :: r) T :: k) .normal t H := rfl
theorem ugt_tf {o : Oper} : UGT P pol C L fn fr (some (.bool true)) false o d a r T k t H = U P pol C L fn fr (.opsT a r (.quiet :: T) :: k) .normal (putT t d nov) H := rfl
theorem ugt_ft {o : Oper} : UGT P pol C L fn fr (some (.bool false)) true o d a r T k t H = U P pol C L fn fr (.opsT a r (.quiet :: T) :: k) .normal (putT t d nov) H := rfl

theorem ugt_no {want : Bool} {o : Oper} : UGT P pol C L fn fr (some (.tuple [])) want o d a r T k t H = U P pol C L fn fr (.opsT a r (.quiet :: T) :: k) .normal (putT t d nov) H := rfl
theorem opsT_cons {o : Oper} (hw : wantedV a t o = some true) : U P pol C L fn fr (.opsT a (o :: r) T :: k) .normal t H = match opOne P pol C fn fr t H o with
    | some (.normal, t1, H1) => U P pol C L fn fr (.opsT a r (fpOf P pol fn fr t H o :: T) :: k) .normal t1 H1
    | _ => none := by
  simp only [U, runOpsT, hw]
  cases opOne P pol C fn fr t H o with
  | none => rfl
  | some x =>
    obtain ⟨e, t1, H1⟩ := x
    cases e with
    | normal =>
      simp only
      cases runOpsT P pol C fn fr a r t1 H1 with
      | none => rfl
      | some y =>
        obtain ⟨t2, H2, T2⟩ := y
        simp only [Option.bind_some, List.reverse_cons, List.append_assoc, List.singleton_append]
    | _ => rfl

theorem w_opT {op : Op} : U P pol C L fn fr (.opsT a ({ dst := d, op := op, type := ty, pos := ps, after := af, guard := none } :: r) T :: k) .normal t H =
    UST P pol C L fn fr (quietOp op) (idsOf fr (rho t) { dst := d, op := op, type := ty, pos := ps, after := af, guard := none }) (evOp P (pol.mt fn) fr (hget H) (rho t) { dst := d, op := op, type := ty, pos := ps, after := af, guard := none }) d a r T k t H := by
  rw [opsT_cons rfl]
  simp only [opOne, fpOf]
  cases evOp P (pol.mt fn) fr (hget H) (rho t) { dst := d, op := op, type := ty, pos := ps, after := af, guard := none } with
  | none => rfl
  | some s =>
    cases s with
    | val v w =>
      cases w with
      | none => simp only [UST, wr]
      | some w => obtain ⟨f, s, o⟩ := w; simp only [UST, wr]
    | panic v => rfl
    | call f args =>
      simp only [UST, UCT]
      cases callOp pol C fn fr d f args H with
      | none => rfl
      | some q => obtain ⟨q, H'⟩ := q; cases q <;> rfl

theorem w_guardT {op : Op} {j : Nat} {want : Bool} : U P pol C L fn fr (.opsT a ({ dst := d, op := op, type := ty, pos := ps, after := af, guard := some (j, want) } :: r) T :: k) .normal t H =
    UGT P pol C L fn fr (gd a t j) want { dst := d, op := op, type := ty, pos := ps, after := af, guard := none } d a r T k t H := by
  have e : wantedV a t { dst := d, op := op, type := ty, pos := ps, after := af, guard := some (j, want) } = match gd a t j with
    | some (.bool b) => some (b == want)
    | some (.tuple []) => some false
    | _ => none := rfl
  have hf : ∀ t, (match runOpsT P pol C fn fr a r (putT t d nov) H with
      | some (t', H', T) => some (t', H', FP.quiet :: T)
      | none => none).bind (fun x => if okT (Region.before a) (loud (T.reverse ++ x.2.2)) = true then U P pol C L fn fr k .normal x.1 x.2.1 else none) = U P pol C L fn fr (.opsT a r (.quiet :: T) :: k) .normal (putT t d nov) H := by
    intro t
    simp only [U]
    cases runOpsT P pol C fn fr a r (putT t d nov) H with
    | none => rfl
    | some y => simp only [Option.bind_some, List.reverse_cons, List.append_assoc, List.singleton_append]
  cases hg : gd a t j with
  | none => simp only [U, runOpsT, e, hg, UGT]; rfl
  | some v =>
    rw [hg] at e
    cases v with
    | bool b =>
      by_cases hb : b = want
      · subst hb
        have e' : wantedV a t { dst := d, op := op, type := ty, pos := ps, after := af, guard := some (j, b) } = some true := by rw [e]; simp
        rw [opsT_cons e']
        simp only [UGT, if_true]
        rw [opsT_cons rfl]
        rfl
      · have e' : wantedV a t { dst := d, op := op, type := ty, pos := ps, after := af, guard := some (j, want) } = some false := by rw [e]; simp [hb]
        simp only [UGT, hb, if_false]
        rw [← hf t]
        simp only [U, runOpsT, e']
        rfl
    | tuple l =>
      cases l with
      | nil =>
        simp only [UGT]
        rw [← hf t]
        simp only [U, runOpsT, e]
        rfl
      | cons x l => simp only [U, runOpsT, e, UGT]; rfl
    | _ => simp only [U, runOpsT, e, UGT]; rfl

/-- A region that draws ends: those that are not ordered leave each other alone. -/
theorem w_opsT_nil (h : okT (Region.before a) (loud T.reverse) = true) : U P pol C L fn fr (.opsT a [] T :: k) .normal t H = U P pol C L fn fr k .normal t H := by
  rw [u_opsT_nil, if_pos h]
end
theorem W.opsT {P : Program} {pol : Pol} {C : Call} {L : Body → Body} {fn fr : Nat} {t : List V} {H : Heap} {a : Array Oper} {T : List FP} {k : List It} {Q : Ex → List V → Heap → Prop}
    (h : okT (Region.before a) (loud T.reverse) = true) (h2 : W (U P pol C L fn fr k .normal t H) Q) : W (U P pol C L fn fr (.opsT a [] T :: k) .normal t H) Q := by
  rw [w_opsT_nil h]; exact h2

/-! ### Heaps behind others -/
theorem hget_app (H G : Heap) (i s : Nat) : hget (H ++ G) (H.length + i) s = hget G i s := by
  unfold hget
  rw [List.getElem?_append_right (by omega), Nat.add_sub_cancel_left]
theorem hget_app0 (H G : Heap) (s : Nat) : hget (H ++ G) H.length s = hget G 0 s := hget_app H G 0 s
theorem hget_old (H G : Heap) {f : Nat} (h : f < H.length) (s : Nat) : hget (H ++ G) f s = hget H f s := by
  unfold hget
  rw [List.getElem?_append_left h]
theorem hget_zero (F : Frame) (G : Heap) (s : Nat) : hget (F :: G) 0 s = fget F s := rfl
theorem hget_succ (F : Frame) (G : Heap) (i s : Nat) : hget (F :: G) (i + 1) s = hget G i s := rfl
theorem modify_app {α : Type} (f : α → α) : ∀ (H G : List α) (i : Nat), (H ++ G).modify (H.length + i) f = H ++ G.modify i f
  | [], G, i => by simp
  | x :: H, G, i => by
    rw [List.cons_append, show (x :: H).length + i = (H.length + i) + 1 by simp; omega, List.modify_succ_cons, modify_app f H G i, List.cons_append]
theorem modify_old {α : Type} (f : α → α) : ∀ (H G : List α) (i : Nat), i < H.length → (H ++ G).modify i f = H.modify i f ++ G
  | [], G, i, h => by simp at h
  | x :: H, G, 0, h => by simp
  | x :: H, G, i + 1, h => by
    rw [List.cons_append, List.modify_succ_cons, modify_old f H G i (by simpa using h), List.modify_succ_cons, List.cons_append]
theorem hset_app (H G : Heap) (i s : Nat) (o : O) : hset (H ++ G) (H.length + i) s o = H ++ hset G i s o := by
  unfold hset
  exact modify_app _ H G i
theorem hset_app0 (H G : Heap) (s : Nat) (o : O) : hset (H ++ G) H.length s o = H ++ hset G 0 s o := hset_app H G 0 s o
theorem hset_zero (F : Frame) (G : Heap) (s : Nat) (o : O) : hset (F :: G) 0 s o = fset F s o :: G := rfl
theorem hset_succ (F : Frame) (G : Heap) (i s : Nat) (o : O) : hset (F :: G) (i + 1) s o = F :: hset G i s o := rfl
theorem hset_old (H G : Heap) {f : Nat} (h : f < H.length) (s : Nat) (o : O) : hset (H ++ G) f s o = hset H f s o ++ G := by
  unfold hset
  exact modify_old _ H G f h
theorem fget_nil (s : Nat) : fget [] s = none := rfl
theorem fset_nil (s : Nat) (o : O) : fset [] s o = [(s, o)] := rfl

/-- No frame names one that is not there. -/
def WF (H : Heap) : Prop := clearH (fun f _ => Nat.ble H.length f) H = true
theorem WF.nil : WF [] := rfl
theorem clearH_append (p : Nat → Nat → Bool) : ∀ (H G : Heap), clearH p (H ++ G) = (clearH p H && clearH p G)
  | [], G => by simp [clearH]
  | F :: H, G => by simp [clearH, clearH_append p H G, Bool.and_assoc]

mutual
theorem refs_mono {p q : Nat → Nat → Bool} (h : ∀ a b, p a b = true → q a b = true) : ∀ v : V, v.refs q = false → v.refs p = false
  | .ptr f s _, h2 | .gslice f s _ _ _, h2 | .mslice f s _ _ _ _, h2 | .map f s, h2 => by
    simp only [V.refs] at h2 ⊢
    cases hp : p f s with
    | false => rfl
    | true => rw [h _ _ hp] at h2; cases h2
  | .func _ a b, h2 => by simp only [V.refs, Bool.or_eq_false_iff] at h2 ⊢; exact ⟨refsL_mono h a h2.1, refsL_mono h b h2.2⟩
  | .face _ v, h2 => by simp only [V.refs] at h2 ⊢; exact refs_mono h v h2
  | .agg xs, h2 | .tuple xs, h2 => by simp only [V.refs] at h2 ⊢; exact refsL_mono h xs h2
  | .bad, _ | .bool _, _ | .int _ _, _ | .str _, _ | .nilptr, _ | .iptr _ _, _ | .nilslice, _ | .islice _ _ _, _ | .nilmap, _ | .nilfunc, _ | .nilface, _ | .byte, _ => rfl
theorem refsL_mono {p q : Nat → Nat → Bool} (h : ∀ a b, p a b = true → q a b = true) : ∀ l : List V, refsL q l = false → refsL p l = false
  | [], _ => rfl
  | x :: xs, h2 => by simp only [refsL, Bool.or_eq_false_iff] at h2 ⊢; exact ⟨refs_mono h x h2.1, refsL_mono h xs h2.2⟩
end
theorem refsM_mono {p q : Nat → Nat → Bool} (h : ∀ a b, p a b = true → q a b = true) : ∀ l : List (V × V), refsM q l = false → refsM p l = false
  | [], _ => rfl
  | (a, b) :: xs, h2 => by simp only [refsM, Bool.or_eq_false_iff] at h2 ⊢; exact ⟨⟨refs_mono h a h2.1.1, refs_mono h b h2.1.2⟩, refsM_mono h xs h2.2⟩
theorem orefs_mono {p q : Nat → Nat → Bool} (h : ∀ a b, p a b = true → q a b = true) (o : O) (h2 : o.refs q = false) : o.refs p = false := by
  cases o with
  | cells xs => exact refsL_mono h xs h2
  | map es => exact refsM_mono h es h2
  | _ => rfl
theorem clearF_mono {p q : Nat → Nat → Bool} (h : ∀ a b, p a b = true → q a b = true) : ∀ F : Frame, clearF q F = true → clearF p F = true
  | [], _ => rfl
  | (s, o) :: r, h2 => by
    simp only [clearF, Bool.and_eq_true, Bool.not_eq_true'] at h2 ⊢
    exact ⟨orefs_mono h o h2.1, clearF_mono h r h2.2⟩
theorem clearH_mono {p q : Nat → Nat → Bool} (h : ∀ a b, p a b = true → q a b = true) : ∀ H : Heap, clearH q H = true → clearH p H = true
  | [], _ => rfl
  | F :: r, h2 => by
    simp only [clearH, Bool.and_eq_true] at h2 ⊢
    exact ⟨clearF_mono h F h2.1, clearH_mono h r h2.2⟩
theorem ble_mono {n m : Nat} (h : n ≤ m) (a b : Nat) : (fun f (_ : Nat) => Nat.ble m f) a b = true → (fun f (_ : Nat) => Nat.ble n f) a b = true := by
  simp only [Nat.ble_eq]; omega

theorem WF.app {H G : Heap} (h : WF H) (h2 : clearH (fun f _ => Nat.ble (H.length + G.length) f) G = true) : WF (H ++ G) := by
  unfold WF
  rw [clearH_append, List.length_append, h2, Bool.and_true]
  exact clearH_mono (ble_mono (by omega)) H h

theorem popF_drop {H G : Heap} {v : V} (hv : v.refs (fun f _ => Nat.ble H.length f) = false) (hw : WF H) : popF H.length v (H ++ G) = H := by
  unfold popF
  have e : (H ++ G).take H.length = H := by simp
  rw [hv, e]
  unfold WF at hw
  rw [hw]
  rfl
theorem popF_keep {b : Nat} {H : Heap} {v : V} (hv : v.refs (fun f _ => Nat.ble b f) = true) : popF b v H = H := by
  unfold popF
  rw [hv]
  rfl

/-! ### Appending -/
section
variable {P : Program} {t t2 e e2 : TypeId} {n by_ m : Nat} {z cs : List V} {x : V} {g : Get} {mt : Nat → Bool} {fr : Nat} {dst : Option Nat} {d : Nat}
theorem app_none (hu : P.underlying t = some (.slice e)) (hs : sz P e = some n) (hb : byt P e = some by_) (hz : zeroCells P e = some z) (hzl : z.length = n) (ht : P.underlying t2 = some (.slice e2)) {s : V} (hsl : isSlice s = true)
    (hx : sliceCells g n x = some (cs, 0)) : appendV P mt fr g dst t t2 s x = some (.val s none) := by
  simp only [appendV, hu, hs, hb, hz, hzl, if_true, appSrc, ht, hx, hsl]
theorem app_nil (hu : P.underlying t = some (.slice e)) (hs : sz P e = some n) (hb : byt P e = some by_) (hz : zeroCells P e = some z) (hzl : z.length = n) (ht : P.underlying t2 = some (.slice e2))
    (hx : sliceCells g n x = some (cs, m)) (hm : 0 < m) (hr : roomy m by_ = true) : appendV P mt fr g dst t t2 .nilslice x = grown mt g fr dst cs cs m n := by
  obtain ⟨m, rfl⟩ : ∃ k, m = k + 1 := ⟨m - 1, by omega⟩
  simp only [appendV, hu, hs, hb, hz, hzl, if_true, appSrc, ht, hx, appendTo, hr]
theorem app_full {c0 : List V} {k : Nat} (hu : P.underlying t = some (.slice e)) (hs : sz P e = some n) (hb : byt P e = some by_) (hz : zeroCells P e = some z) (hzl : z.length = n) (ht : P.underlying t2 = some (.slice e2))
    (hx : sliceCells g n x = some (cs, m)) (hm : 0 < m) (hc : c0.length = k * n) (hr : roomy (k + m) by_ = true) : appendV P mt fr g dst t t2 (.islice c0 k true) x = grown mt g fr dst (c0 ++ cs) cs (k + m) n := by
  obtain ⟨m, rfl⟩ : ∃ k, m = k + 1 := ⟨m - 1, by omega⟩
  simp only [appendV, hu, hs, hb, hz, hzl, if_true, appSrc, ht, hx, appendTo, hr, hc, and_self]
theorem app_more {c0 : List V} {f s k : Nat} (hu : P.underlying t = some (.slice e)) (hs : sz P e = some n) (hb : byt P e = some by_) (hz : zeroCells P e = some z) (hzl : z.length = n) (ht : P.underlying t2 = some (.slice e2))
    (hx : sliceCells g n x = some (cs, m)) (hm : 0 < m) (hr : roomy (k + m) by_ = true) (hp : pureL cs = true) (hsc : cs.all V.scalar = true) (hg : g f s = some (.grow k)) :
    appendV P mt fr g dst t t2 (.gslice f s c0 k n) x = some (.val (.gslice f s (c0 ++ cs) (k + m) n) (some (f, s, .grow (k + m)))) := by
  obtain ⟨m, rfl⟩ : ∃ k, m = k + 1 := ⟨m - 1, by omega⟩
  simp only [appendV, hu, hs, hb, hz, hzl, if_true, appSrc, ht, hx, appendTo, hr, hp, hsc, hg, and_self]
theorem grown_mt {chk : List V} (hd : mt d = true) (hsc : cs.all V.scalar = true) (hg : g fr d = none) : grown mt g fr (some d) cs chk m n = some (.val (.mslice fr d 0 m none n) (some (fr, d, .cells cs))) := by
  simp only [grown, hd, if_true, hsc, new, hg]
theorem grown_im {chk : List V} (hd : mt d = false) (hp : pureL chk = true) (hg : g fr d = none) : grown mt g fr (some d) cs chk m n = some (.val (.gslice fr d cs m n) (some (fr, d, .grow m))) := by
  simp only [grown, hd, Bool.false_eq_true, if_false, hp, if_true, new, hg]
end
theorem bi_append {P : Program} {mt : Nat → Bool} {fr : Nat} {g : Get} {d : Option Nat} {t t2 : TypeId} {s x : V} : builtinV P mt fr g d .append #[t, t2] [s, x] = appendV P mt fr g d t t2 s x := rfl
theorem bi_copy {P : Program} {mt : Nat → Bool} {fr : Nat} {g : Get} {d : Option Nat} {t t2 : TypeId} {s x : V} : builtinV P mt fr g d .copy #[t, t2] [s, x] = copyV P g t s x := rfl
theorem roomy_of {m by_ : Nat} (h : m * by_ ≤ 35184372088832) (h2 : m ≤ 35184372088832) : roomy m by_ = true := by
  simp [roomy, h, h2]
theorem scalar_ofBytes (l : List UInt8) : (ofBytes l).all V.scalar = true := by simp [ofBytes, V.scalar]
theorem scalar_ofInts (l : List Int) : (ofInts l).all V.scalar = true := by simp [ofInts, V.scalar]

theorem IsSl.id? {esz n : Nat} {v : V} {cells : List V} (h : IsSl esz v cells n) : v.id? = none := by
  obtain ⟨_, ⟨rfl, _⟩ | ⟨f, rfl⟩⟩ := h <;> rfl
theorem IsSl.isSl {esz n : Nat} {v : V} {cells : List V} (h : IsSl esz v cells n) : isSlice v = true := by
  obtain ⟨_, ⟨rfl, _⟩ | ⟨f, rfl⟩⟩ := h <;> rfl
end Go.AM
