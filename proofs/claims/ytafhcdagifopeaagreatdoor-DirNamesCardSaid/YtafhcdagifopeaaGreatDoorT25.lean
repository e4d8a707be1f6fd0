/- This file holds in one the texts Bx20, Bx21; each says at its head what it proves. -/
import Derived.Test.YtafhcdagifopeaaGreatDoorT24
set_option linter.unusedSimpArgs false
set_option linter.unusedVariables false
section
/- The machine for closed laws, part 20: operations that are not ordered may change places. -/
namespace Go.AM.BM

def opNames (ops : Array Oper) (o : Oper) : List Nat :=
  o.dst.toList ++ (o.op.operands.toList.filterMap fun | .tmp i => some i | _ => none) ++ (match o.guard with | some (j, _) => ((ops[j]?).bind (·.dst)).toList | none => [])

def apartO (ops : Array Oper) (a b : Oper) : Bool :=
  (match a.dst with | some d => !(opNames ops b).contains d | none => true) && (match b.dst with | some d => !(opNames ops a).contains d | none => true)

section
variable {P : Program} {pol : Pol} {C : Call} {ops : Array Oper}

theorem putT_get (t : List V) (dst : Option Nat) (v : V) (i : Nat) (h : dst ≠ some i) : (putT t dst v)[i]? = t[i]? := by
  cases dst with
  | none => rfl
  | some d =>
    simp only [putT]
    rw [List.getElem?_set_ne]
    exact fun e => h (by rw [e])

theorem rho_put (t : List V) (dst : Option Nat) (v : V) (x : Operand) (h : ∀ i, x = .tmp i → dst ≠ some i) : rho (putT t dst v) x = rho t x := by
  cases x with
  | tmp i => simp only [rho, List.getD, putT_get t dst v i (h i rfl)]
  | _ => rfl

theorem apart_operand {a b : Oper} (h : apartO ops a b = true) {v : V} (t : List V) : ∀ x ∈ b.op.operands, rho (putT t a.dst v) x = rho t x := by
  intro x hx
  refine rho_put t a.dst v x ?_
  intro i e hd
  simp only [apartO, hd, Bool.and_eq_true, Bool.not_eq_true'] at h
  have : i ∈ opNames ops b := by
    subst e
    simp only [opNames, List.mem_append, List.mem_filterMap]
    exact .inl (.inr ⟨.tmp i, by simpa using hx, rfl⟩)
  have h1 := h.1
  simp at h1
  exact h1 this

theorem apart_wanted {a b : Oper} (h : apartO ops a b = true) {v : V} (t : List V) : wantedV ops (putT t a.dst v) b = wantedV ops t b := by
  unfold wantedV
  cases hg : b.guard with
  | none => rfl
  | some jw =>
    obtain ⟨j, want⟩ := jw
    simp only
    cases hd : (ops[j]?).bind (·.dst) with
    | none => rfl
    | some d =>
      simp only [Option.bind_some]
      rw [putT_get]
      intro e
      simp only [apartO, e, Bool.and_eq_true, Bool.not_eq_true'] at h
      have : d ∈ opNames ops b := by
        simp only [opNames, List.mem_append, hg, hd]
        exact .inr (by simp)
      have h1 := h.1
      simp at h1
      exact h1 this

theorem apart_symm {a b : Oper} (h : apartO ops a b = true) : apartO ops b a = true := by
  simp only [apartO, Bool.and_eq_true] at h ⊢; exact ⟨h.2, h.1⟩

theorem put_comm {a b : Oper} (h : apartO ops a b = true) (t : List V) (v u : V) : putT (putT t a.dst v) b.dst u = putT (putT t b.dst u) a.dst v := by
  cases ha : a.dst with
  | none => rfl
  | some d =>
    cases hb : b.dst with
    | none => rfl
    | some e =>
      simp only [putT]
      rw [List.set_comm]
      intro he
      subst he
      simp only [apartO, ha, hb, Bool.and_eq_true, Bool.not_eq_true'] at h
      have : d ∈ opNames ops b := by simp [opNames, hb]
      have h1 := h.1
      simp at h1
      exact h1 this

theorem growV_congr {g g' : Get} {nm : Nat} {t t2 : TypeId} {s x : V} (hd : g 0 nm = g' 0 nm) (hs : ∀ f i, s.id? = some (f, i) → g f i = g' f i) (hx : ∀ f i, x.id? = some (f, i) → g f i = g' f i) :
    growV P g nm t t2 s x = growV P g' nm t t2 s x := by
  have h1 : ∀ n b z, appSrc P g t2 n b z x = appSrc P g' t2 n b z x := by
    intro n b z
    unfold appSrc
    split
    · rfl
    · rfl
    · exact sliceCells_congr hx
    · rfl
  unfold growV
  simp only [h1, hd]
  split
  · rw [hs _ _ rfl]
  · rfl
theorem moreOp_get {g g' : Get} {ρ : Operand → V} {o : Oper} {nm : Nat} (h : ∀ f s, (f, s) ∈ idsOf 0 ρ (atN o nm) → g f s = g' f s) : moreOp P g ρ nm o.op = moreOp P g' ρ nm o.op := by
  have own : g 0 nm = g' 0 nm := h _ _ (ids_own rfl)
  have arg : ∀ x ∈ (atN o nm).op.operands, ∀ f s, (ρ x).id? = some (f, s) → g f s = g' f s := fun x hx f s e => h f s (ids_mem hx e)
  unfold moreOp
  split
  · rename_i c hop
    split
    · rename_i s x t t2 ts hc ha ht
      have hm : ∀ y ∈ ([s, x] : List Operand), y ∈ (atN o nm).op.operands := by
        intro y hy
        simp only [atN, hop, Op.operands, Call.operands, hc]
        have : y ∈ c.args.toList := by rw [ha]; exact hy
        simpa using this
      exact growV_congr own (arg s (hm s (by simp))) (arg x (hm x (by simp)))
    · rename_i s t hc ha ht
      have hm : s ∈ (atN o nm).op.operands := by
        simp only [atN, hop, Op.operands, Call.operands, hc]
        have : s ∈ c.args.toList := by rw [ha]; simp
        simpa using this
      unfold clearV
      split
      · split
        · rfl
        · rename_i hs
          rw [arg s hm _ _ (by rw [hs]; rfl)]
        · rfl
      · rfl
    · rfl
  · rfl
theorem moreOp_rho {g : Get} {ρ ρ' : Operand → V} {o : Op} {nm : Nat} (h : ∀ x ∈ o.operands, ρ x = ρ' x) : moreOp P g ρ nm o = moreOp P g ρ' nm o := by
  unfold moreOp
  split
  · rename_i c
    split
    · rename_i s x t t2 ts hc ha ht
      have hm : ∀ y ∈ ([s, x] : List Operand), ρ y = ρ' y := by
        intro y hy
        refine h y ?_
        simp only [Op.operands, Call.operands, hc]
        have : y ∈ c.args.toList := by rw [ha]; exact hy
        simpa using this
      rw [hm s (by simp), hm x (by simp)]
    · rename_i s t hc ha ht
      rw [h s (by
        simp only [Op.operands, Call.operands, hc]
        have : s ∈ c.args.toList := by rw [ha]; simp
        simpa using this)]
    · rfl
  · rfl

theorem isFresh_spec {nm : Nat} {H : Heap} {ws : List (Nat × Nat × O)} (h : isFresh nm H ws = true) : ∃ o, ws = [(0, nm, o)] ∧ hget H 0 nm = none := by
  unfold isFresh at h
  split at h
  · rename_i f s o
    simp only [Bool.and_eq_true, Nat.beq_eq, Option.isNone_iff_eq_none] at h
    obtain ⟨⟨rfl, rfl⟩, h⟩ := h
    exact ⟨o, rfl, h⟩
  · cases h
theorem isFresh_congr {nm : Nat} {H H' : Heap} (ws : List (Nat × Nat × O)) (h : hget H' 0 nm = hget H 0 nm) : isFresh nm H' ws = isFresh nm H ws := by
  unfold isFresh; split <;> simp only [h]

theorem evOp_not_far {g : Get} {ρ : Operand → V} {o : Oper} {nm : Nat} {f : FuncId} {args : List V} (h : evOp P (fun _ => true) 0 g ρ (atN o nm) = some (.call f args)) : farOp o.op = false := by
  cases ho : o.op <;> first | rfl | skip
  simp only [evOp, atN, ho] at h
  cases hx : entryV g (ρ _) with
  | none => rw [hx] at h; cases h
  | some y => rw [hx] at h; cases h
theorem evOp_not_far2 {g : Get} {ρ : Operand → V} {o : Oper} {nm : Nat} {f s : Nat} {args : List V} (h : evOp P (fun _ => true) 0 g ρ (atN o nm) = some (.round f s args)) : farOp o.op = false := by
  cases ho : o.op <;> first | rfl | skip
  simp only [evOp, atN, ho] at h
  cases hx : entryV g (ρ _) with
  | none => rw [hx] at h; cases h
  | some y => rw [hx] at h; cases h

theorem fp_cases (hC : CMono C) (tm : Tame pol) (lim nm : Nat) (t : List V) (H : Heap) (o : Oper) {t1 : List V} {H1 : Heap} (h : opOne P pol C nm t H o = some (.normal, t1, H1)) :
    (fpOf P lim nm t H H1 o = .quiet ∧ ∃ v, t1 = putT t o.dst v ∧ H1 = H ∧ ∀ (t' : List V) (H' : Heap), (∀ x ∈ o.op.operands, rho t' x = rho t x) → opOne P pol C nm t' H' o = some (.normal, putT t' o.dst v, H') ∧ ∀ H'', fpOf P lim nm t' H' H'' o = .quiet) ∨
    (∃ ws v r fr, fpOf P lim nm t H H1 o = .ids r (idsL ws) fr ∧ t1 = putT t o.dst v ∧ H1 = wrL H ws ∧ (fr = true → ∃ o', ws = [(0, nm, o')] ∧ hget H 0 nm = none) ∧ (0, nm) ∈ r ∧
      ∀ (t' : List V) (H' : Heap), (∀ x ∈ o.op.operands, rho t' x = rho t x) → (∀ f s, (f, s) ∈ r → hget H' f s = hget H f s) →
        opOne P pol C nm t' H' o = some (.normal, putT t' o.dst v, wrL H' ws) ∧ ∀ H'', fpOf P lim nm t' H' H'' o = .ids r (idsL ws) fr) ∨
    (fpOf P lim nm t H H1 o = .call (keeps lim H H1) ∧ ∃ v, t1 = putT t o.dst v ∧ (∀ (t' : List V) H0 H2, (∀ x ∈ o.op.operands, rho t' x = rho t x) → opOne P pol C nm t' H0 o = some (.normal, putT t' o.dst v, H2) → fpOf P lim nm t' H0 H2 o = .call (keeps lim H0 H2)) ∧
      ∀ (t' : List V), (∀ x ∈ o.op.operands, rho t' x = rho t x) → opOne P pol C nm t' H o = some (.normal, putT t' o.dst v, H1) ∧
        ∀ s x, Spot s H → nm ≠ s → opOne P pol C nm t' (hset H 0 s x) o = some (.normal, putT t' o.dst v, hset H1 0 s x) ∧ Spot s H1) ∨
    (fpOf P lim nm t H H1 o = .all ∧ ∃ v, t1 = putT t o.dst v ∧
      ∀ (t' : List V), (∀ x ∈ o.op.operands, rho t' x = rho t x) → opOne P pol C nm t' H o = some (.normal, putT t' o.dst v, H1) ∧ fpOf P lim nm t' H H1 o = .all) := by
  have hids : ∀ t' : List V, (∀ x ∈ o.op.operands, rho t' x = rho t x) → idsOf 0 (rho t') (atN o nm) = idsOf 0 (rho t) (atN o nm) := by
    intro t' ht
    simp only [idsOf, atN]
    congr 1
    have : ∀ l : List Operand, (∀ x ∈ l, rho t' x = rho t x) → l.filterMap (fun x => (rho t' x).id?) = l.filterMap fun x => (rho t x).id? := by
      intro l
      induction l with
      | nil => intro _; rfl
      | cons x l ih => intro hl; simp only [List.filterMap_cons]; rw [hl x (by simp), ih (fun y hy => hl y (by simp [hy]))]
    exact this _ (fun x hx => ht x (by simpa using hx))
  have own : (0, nm) ∈ idsOf 0 (rho t) (atN o nm) := ids_own rfl
  unfold opOne at h
  by_cases hq : quietOp o.op = true
  · left
    have hq' : quietOp (atN o nm).op = true := hq
    split at h
    · rename_i hev
      split at h
      case h_2 => cases h
      rename_i v ws hm
      exfalso
      unfold moreOp at hm
      split at hm
      · rename_i c hop; rw [hop] at hq; cases hq
      · cases hm
    · rename_i v w hev
      obtain ⟨v', hv'⟩ := evOp_quiet_val hq' hev
      cases hv'
      cases h
      refine ⟨by simp [fpOf, hq], v, rfl, rfl, fun t' H' ht => ⟨?_, fun _ => by simp [fpOf, hq]⟩⟩
      have e : evOp P (fun _ => true) 0 (hget H') (rho t') (atN o nm) = some (.val v none) := by
        rw [evOp_rho (ρ' := rho t) (o := atN o nm) ht, evOp_quiet (g' := hget H) hq', hev]
      simp only [opOne, e, wr]
    · rename_i v hev
      obtain ⟨v', hv'⟩ := evOp_quiet_val hq' hev
      cases hv'
    · rename_i f args hev
      obtain ⟨v', hv'⟩ := evOp_quiet_val hq' hev
      cases hv'
    · rename_i f s args hev
      obtain ⟨v', hv'⟩ := evOp_quiet_val hq' hev
      cases hv'
  · split at h
    · rename_i hev
      split at h
      case h_2 => cases h
      rename_i v ws hm
      cases h
      have hfar : farOp o.op = false := by
        unfold moreOp at hm
        split at hm
        · rename_i c hop; rw [hop]; rfl
        · cases hm
      right; left
      have hmain : ∀ (t' : List V) (H' : Heap), (∀ x ∈ o.op.operands, rho t' x = rho t x) → (∀ f s, (f, s) ∈ idsOf 0 (rho t) (atN o nm) → hget H' f s = hget H f s) →
          moreOp P (hget H') (rho t') nm o.op = some (v, ws) ∧ evOp P (fun _ => true) 0 (hget H') (rho t') (atN o nm) = none := by
        intro t' H' ht hg
        have e : moreOp P (hget H') (rho t') nm o.op = some (v, ws) := by
          rw [moreOp_rho ht, moreOp_get (g' := hget H) hg, hm]
        exact ⟨e, moreOp_evOp (nm := nm) e⟩
      refine ⟨ws, v, _, isFresh nm H ws, ?_, rfl, rfl, fun hf => isFresh_spec hf, own, fun t' H' ht hg => ?_⟩
      · simp only [fpOf, hq, hfar, Bool.false_eq_true, if_false, hev, hm]
      · obtain ⟨e1, e2⟩ := hmain t' H' ht hg
        refine ⟨by simp only [opOne, e1, e2], fun _ => ?_⟩
        simp only [fpOf, hq, hfar, Bool.false_eq_true, if_false, e1, e2, hids t' ht, isFresh_congr ws (hg _ _ own)]
    · rename_i v w hev
      by_cases hfar : farOp o.op = true
      · right; right; right
        cases h
        refine ⟨by simp [fpOf, hq, hfar], v, rfl, fun t' ht => ⟨?_, by simp [fpOf, hq, hfar]⟩⟩
        have e : evOp P (fun _ => true) 0 (hget H) (rho t') (atN o nm) = some (.val v w) := by rw [evOp_rho (ρ' := rho t) (o := atN o nm) ht, hev]
        simp only [opOne, e]
      have hfar' : farOp o.op = false := by simpa using hfar
      right; left
      cases h
      refine ⟨w.toList, v, _, isFresh nm H w.toList, ?_, rfl, wr_eq H w, fun hf => isFresh_spec hf, own, fun t' H' ht hg => ?_⟩
      · simp only [fpOf, hq, hfar', Bool.false_eq_true, if_false, hev]
      · have e : evOp P (fun _ => true) 0 (hget H') (rho t') (atN o nm) = some (.val v w) := by
          rw [evOp_rho (ρ' := rho t) (o := atN o nm) ht, evOp_get (g' := hget H) (o := atN o nm) hfar' hg, hev]
        refine ⟨by simp only [opOne, e, wr_eq], fun _ => ?_⟩
        simp only [fpOf, hq, hfar', Bool.false_eq_true, if_false, e, hids t' ht, isFresh_congr w.toList (hg _ _ own)]
    · cases h
    · rename_i f args hev
      have hfar' : farOp o.op = false := evOp_not_far hev
      have hcall : ∀ (t' : List V) (H' : Heap), (∀ x ∈ o.op.operands, rho t' x = rho t x) → evOp P (fun _ => true) 0 (hget H') (rho t') (atN o nm) = some (.call f args) := by
        intro t' H' ht
        rw [evOp_rho (ρ' := rho t) (o := atN o nm) ht]
        exact evOp_call hev
      right; right; left
      split at h
      · rename_i v H2 hc
        cases h
        refine ⟨by simp only [fpOf, hq, hfar', Bool.false_eq_true, if_false, hev], v, rfl, fun t' H0 H2 ht _ => ?_, fun t' ht => ?_⟩
        · simp only [fpOf, hq, hfar', Bool.false_eq_true, if_false, hcall t' H0 ht]
        · have e : opOne P pol C nm t' H o = some (.normal, putT t' o.dst v, H1) := by simp only [opOne, hcall t' H ht, hc]
          exact ⟨e, fun s x sp hne => opOne_mono tm hC e sp hne⟩
      · cases h
      · cases h
    · rename_i f s args hev
      right; right; right
      have hfar' : farOp o.op = false := evOp_not_far2 hev
      have he : ∀ t' : List V, (∀ x ∈ o.op.operands, rho t' x = rho t x) → evOp P (fun _ => true) 0 (hget H) (rho t') (atN o nm) = some (.round f s args) := fun t' ht => by rw [evOp_rho (ρ' := rho t) (o := atN o nm) ht, hev]
      have hall : ∀ t' : List V, (∀ x ∈ o.op.operands, rho t' x = rho t x) → fpOf P lim nm t' H H1 o = .all := fun t' ht => by
        simp only [fpOf, hq, hfar', Bool.false_eq_true, if_false, he t' ht]
      split at h
      · rename_i v H2 hc
        cases h
        refine ⟨hall t (fun _ _ => rfl), v, rfl, fun t' ht => ⟨?_, hall t' ht⟩⟩
        simp only [opOne, he t' ht, hc]
      · cases h

def Compat (lim : Nat) (T fp : FP) (H H1 : Heap) : Prop :=
  match T with
  | .call k => fp = .call (keeps lim H H1) ∧ ∀ f s, k f s = true → hget H f s = hget H1 f s ∧ lim ≤ nextOf H
  | x => fp = x

open Classical in
noncomputable def stepT (P : Program) (pol : Pol) (C : Call) (ops : Array Oper) (base lim : Nat) (T : List FP) (i : Nat) (t : List V) (H : Heap) : Option (List V × Heap) :=
  match ops[i]? with
  | none => none
  | some o => match wantedV ops t o with
    | none => none
    | some false => if T.getD i .all = .quiet then some (putT t o.dst nov, H) else none
    | some true => match opOne P pol C (base + i) t H o with
      | some (.normal, t1, H1) => if Compat lim (T.getD i .all) (fpOf P lim (base + i) t H H1 o) H H1 then some (t1, H1) else none
      | _ => none

noncomputable def runT (P : Program) (pol : Pol) (C : Call) (ops : Array Oper) (base lim : Nat) (T : List FP) : List Nat → List V → Heap → Option (List V × Heap)
  | [], t, H => some (t, H)
  | i :: r, t, H => match stepT P pol C ops base lim T i t H with
    | some (t1, H1) => runT P pol C ops base lim T r t1 H1
    | none => none

end
end Go.AM.BM
end
section
/- The machine for closed laws, part 21: every order that a region may draw comes to what the order of the text comes to. -/
namespace Go.AM.BM

section
variable {P : Program} {pol : Pol} {C : Call} {ops : Array Oper} {base lim : Nat} {T : List FP}

def Agree (ops : Array Oper) (o : Oper) (t' t : List V) : Prop := (∀ x ∈ o.op.operands, rho t' x = rho t x) ∧ wantedV ops t' o = wantedV ops t o

theorem apart_agree {a b : Oper} (h : apartO ops a b = true) (v : V) (t : List V) : Agree ops b (putT t a.dst v) t := ⟨apart_operand h t, apart_wanted h t⟩

theorem Agree.symm {o : Oper} {t t' : List V} (h : Agree ops o t t') : Agree ops o t' t := ⟨fun x hx => (h.1 x hx).symm, h.2.symm⟩

theorem step_cases (hC : CMono C) (tm : Tame pol) {i : Nat} {o : Oper} {t t1 : List V} {H H1 : Heap} (ho : ops[i]? = some o) (h : stepT P pol C ops base lim T i t H = some (t1, H1)) :
    (T.getD i .all = .quiet ∧ ∃ v, t1 = putT t o.dst v ∧ H1 = H ∧ ∀ t' H', Agree ops o t' t → stepT P pol C ops base lim T i t' H' = some (putT t' o.dst v, H')) ∨
    (∃ ws v r fr, T.getD i .all = .ids r (idsL ws) fr ∧ t1 = putT t o.dst v ∧ H1 = wrL H ws ∧ (fr = true → ∃ o', ws = [(0, base + i, o')] ∧ hget H 0 (base + i) = none) ∧ (0, base + i) ∈ r ∧
      ∀ t' H', Agree ops o t' t → (∀ f s, (f, s) ∈ r → hget H' f s = hget H f s) → stepT P pol C ops base lim T i t' H' = some (putT t' o.dst v, wrL H' ws)) ∨
    (∃ k v, T.getD i .all = .call k ∧ t1 = putT t o.dst v ∧ (∀ f s, k f s = true → hget H f s = hget H1 f s ∧ lim ≤ nextOf H) ∧
      ∀ t', Agree ops o t' t → stepT P pol C ops base lim T i t' H = some (putT t' o.dst v, H1) ∧
        ∀ s x, Spot s H → base + i ≠ s → stepT P pol C ops base lim T i t' (hset H 0 s x) = some (putT t' o.dst v, hset H1 0 s x)) ∨
    (T.getD i .all = .all ∧ ∃ v, t1 = putT t o.dst v ∧ ∀ t', Agree ops o t' t → stepT P pol C ops base lim T i t' H = some (putT t' o.dst v, H1)) := by
  simp only [stepT, ho] at h ⊢
  split at h
  · cases h
  · rename_i hw
    split at h
    · rename_i hT
      cases h
      left
      refine ⟨hT, nov, rfl, rfl, fun t' H' ha => ?_⟩
      rw [ha.2, hw]
      simp only [hT, if_true]
    · cases h
  · rename_i hw
    split at h
    case h_2 => cases h
    rename_i t2 H2 hop
    split at h
    case isFalse => cases h
    rename_i hT
    cases h
    rcases fp_cases hC tm lim (base + i) t H o hop with ⟨h1, v, h2, h3, h4⟩ | ⟨ws, v, r, fr, h1, h2, h3, h5, h6, h4⟩ | ⟨h1, v, h2, h5, h3⟩ | ⟨h1, v, h2, h3⟩
    · left
      rw [h1] at hT
      have hq : T.getD i .all = .quiet := by
        cases hx : T.getD i .all with
        | call k => rw [hx] at hT; cases hT.1
        | _ => rw [hx] at hT; first | done | rfl | cases hT
      refine ⟨hq, v, h2, h3, fun t' H' ha => ?_⟩
      obtain ⟨g1, g2⟩ := h4 t' H' ha.1
      rw [ha.2, hw]
      simp only [g1, g2, hq, Compat, if_true]
    · right; left
      rw [h1] at hT
      have hq : T.getD i .all = .ids r (idsL ws) fr := by
        cases hx : T.getD i .all with
        | call k => rw [hx] at hT; cases hT.1
        | _ => rw [hx] at hT; exact hT.symm
      refine ⟨ws, v, r, fr, hq, h2, h3, h5, h6, fun t' H' ha hg => ?_⟩
      obtain ⟨g1, g2⟩ := h4 t' H' ha.1 hg
      rw [ha.2, hw]
      simp only [g1, g2, hq, Compat, if_true]
    · right; right; left
      rw [h1] at hT
      obtain ⟨k, hq⟩ : ∃ k, T.getD i .all = .call k := by
        cases hx : T.getD i .all with
        | call k => exact ⟨k, rfl⟩
        | _ => rw [hx] at hT; cases hT
      rw [hq] at hT
      obtain ⟨_, k1⟩ := hT
      refine ⟨k, v, hq, h2, k1, fun t' ha => ?_⟩
      obtain ⟨g1, g2⟩ := h3 t' ha.1
      rw [ha.2, hw]
      refine ⟨?_, fun s x sp hne => ?_⟩
      · have hcp : Compat lim (T.getD i .all) (fpOf P lim (base + i) t' H H1 o) H H1 := by rw [hq]; exact ⟨h5 t' H _ ha.1 g1, k1⟩
        simp only [g1]
        rw [if_pos hcp]
      · obtain ⟨g3, g4⟩ := g2 s x sp hne
        have hk2 : ∀ f s', k f s' = true → hget (hset H 0 s x) f s' = hget (hset H1 0 s x) f s' ∧ lim ≤ nextOf (hset H 0 s x) := by
          intro f s' hk
          refine ⟨?_, Nat.le_trans (k1 f s' hk).2 (nextOf_le _ _ _ _)⟩
          by_cases e : f = 0 ∧ s' = s
          · obtain ⟨rfl, rfl⟩ := e
            have l0 : 0 < H.length := by have := sp.1; cases H with | nil => cases this | cons => simp
            have l1 : 0 < H1.length := by have := g4.1; cases H1 with | nil => cases this | cons => simp
            rw [hget_hset _ _ _ _ l0, hget_hset _ _ _ _ l1]; simp
          · rw [sp.get x e, g4.get x e]; exact (k1 f s' hk).1
        have hcp : Compat lim (T.getD i .all) (fpOf P lim (base + i) t' (hset H 0 s x) (hset H1 0 s x) o) (hset H 0 s x) (hset H1 0 s x) := by
          rw [hq]
          refine ⟨h5 t' _ _ ha.1 g3, ?_⟩
          exact hk2
        simp only [g3]
        rw [if_pos hcp]
    · right; right; right
      rw [h1] at hT
      have hq : T.getD i .all = .all := by
        cases hx : T.getD i .all with
        | call k => rw [hx] at hT; cases hT.1
        | _ => rw [hx] at hT; first | done | rfl | cases hT
      refine ⟨hq, v, h2, fun t' ha => ?_⟩
      obtain ⟨g1, g2⟩ := h3 t' ha.1
      rw [ha.2, hw]
      simp only [g1, g2, hq, Compat, if_true]

theorem meets_no {a b : List (Nat × Nat)} (h : (!meets a b) = true) {x : Nat × Nat} (hx : x ∈ a) : x ∉ b := by
  intro hb
  simp only [meets, Bool.not_eq_true', List.any_eq_false] at h
  exact h x hx (by simpa using hb)

theorem wrL_get : ∀ {ws : List (Nat × Nat × O)} {H : Heap} {f s : Nat}, (f, s) ∉ idsL ws → hget (wrL H ws) f s = hget H f s
  | [], _, _, _, _ => rfl
  | (f', s', q) :: r, H, f, s, h => by
    simp only [idsL, List.map_cons, List.mem_cons, not_or] at h
    simp only [wrL]
    rw [wrL_get (by exact h.2), hget_hset_ne]
    rintro ⟨rfl, rfl⟩
    exact h.1 rfl
theorem wrL_hset : ∀ {ws : List (Nat × Nat × O)} {H : Heap} {f s : Nat} {o : O}, (f, s) ∉ idsL ws → wrL (hset H f s o) ws = hset (wrL H ws) f s o
  | [], _, _, _, _, _ => rfl
  | (f', s', q) :: r, H, f, s, o, h => by
    simp only [idsL, List.map_cons, List.mem_cons, not_or] at h
    simp only [wrL]
    rw [hset_comm H o q (fun e => h.1 (by rw [e.1, e.2])), wrL_hset (by exact h.2)]
theorem wrL_comm : ∀ {ws ws' : List (Nat × Nat × O)} {H : Heap}, (!meets (idsL ws) (idsL ws')) = true → wrL (wrL H ws) ws' = wrL (wrL H ws') ws
  | [], _, _, _ => rfl
  | (f, s, o) :: r, ws', H, h => by
    have hm := meets_no h (x := (f, s)) (by simp [idsL])
    have hr : (!meets (idsL r) (idsL ws')) = true := by
      simp only [meets, idsL, List.map_cons, List.any_cons, Bool.not_or, Bool.and_eq_true] at h ⊢
      exact h.2
    simp only [wrL]
    rw [wrL_comm hr, wrL_hset hm]
theorem idsL_nil {ws : List (Nat × Nat × O)} (h : (idsL ws).isEmpty = true) : ws = [] := by
  cases ws with
  | nil => rfl
  | cons => cases h

theorem step_swap (hC : CMono C) (tm : Tame pol) (hlim : base + ops.size ≤ lim) {i j : Nat} {oi oj : Oper} (hi : ops[i]? = some oi) (hj : ops[j]? = some oj) (ha : apartO ops oi oj = true) (hI : (T.getD i .all).indep (T.getD j .all) = true)
    {t t1 t2 : List V} {H H1 H2 : Heap} (h1 : stepT P pol C ops base lim T i t H = some (t1, H1)) (h2 : stepT P pol C ops base lim T j t1 H1 = some (t2, H2)) :
    ∃ t1' H1', stepT P pol C ops base lim T j t H = some (t1', H1') ∧ stepT P pol C ops base lim T i t1' H1' = some (t2, H2) := by
  have hs := apart_symm ha
  have hjs : j < ops.size := (Array.getElem?_eq_some_iff.1 hj).1
  rcases step_cases hC tm hi h1 with ⟨q1, v, rfl, rfl, g1⟩ | ⟨w, v, r, fr, q1, rfl, rfl, f1, m1, g1⟩ | ⟨k, v, q1, rfl, k1, g1⟩ | ⟨q1, v, rfl, g1⟩
  · rcases step_cases hC tm hj h2 with ⟨q2, u, rfl, rfl, g2⟩ | ⟨w', u, r', fr', q2, rfl, rfl, f2, m2, g2⟩ | ⟨k', u, q2, rfl, k2, g2⟩ | ⟨q2, u, rfl, g2⟩
    · refine ⟨_, _, g2 t H2 (apart_agree ha v t).symm, ?_⟩
      rw [g1 _ _ (apart_agree hs u t), put_comm ha]
    · refine ⟨_, _, g2 t H1 (apart_agree ha v t).symm (fun _ _ _ => rfl), ?_⟩
      rw [g1 _ _ (apart_agree hs u t), put_comm ha]
    · refine ⟨_, _, (g2 t (apart_agree ha v t).symm).1, ?_⟩
      rw [g1 _ _ (apart_agree hs u t), put_comm ha]
    · refine ⟨_, _, g2 t (apart_agree ha v t).symm, ?_⟩
      rw [g1 _ _ (apart_agree hs u t), put_comm ha]
  · rcases step_cases hC tm hj h2 with ⟨q2, u, rfl, rfl, g2⟩ | ⟨w', u, r', fr', q2, rfl, rfl, f2, m2, g2⟩ | ⟨k', u, q2, rfl, k2, g2⟩ | ⟨q2, u, rfl, g2⟩
    · refine ⟨_, _, g2 t H (apart_agree ha v t).symm, ?_⟩
      rw [g1 _ _ (apart_agree hs u t) (fun _ _ _ => rfl), put_comm ha]
    · rw [q1, q2] at hI
      simp only [FP.indep, Bool.and_eq_true] at hI
      obtain ⟨⟨i1, i2⟩, i3⟩ := hI
      refine ⟨_, _, g2 t H (apart_agree ha v t).symm (fun f s hm => ?_), ?_⟩
      · exact (wrL_get (fun hw => meets_no i1 hw hm)).symm
      · rw [g1 _ _ (apart_agree hs u t) (fun f s hm => wrL_get (fun hw => meets_no i3 hw hm)), put_comm ha, wrL_comm i2]
    · rw [q1, q2] at hI
      simp only [FP.indep, Bool.and_eq_true, List.all_eq_true] at hI
      obtain ⟨i1, i2⟩ := hI
      have := idsL_nil i1
      subst this
      simp only [wrL] at *
      refine ⟨_, _, (g2 t (apart_agree ha v t).symm).1, ?_⟩
      rw [g1 _ _ (apart_agree hs u t) (fun f s hm => (k2 f s (i2 (f, s) hm)).1.symm), put_comm ha]
    · rw [q1, q2] at hI; cases hI
  · rcases step_cases hC tm hj h2 with ⟨q2, u, rfl, rfl, g2⟩ | ⟨w', u, r', fr', q2, rfl, rfl, f2, m2, g2⟩ | ⟨k', u, q2, rfl, k2, g2⟩ | ⟨q2, u, rfl, g2⟩
    · refine ⟨_, _, g2 t H (apart_agree ha v t).symm, ?_⟩
      rw [(g1 _ (apart_agree hs u t)).1, put_comm ha]
    · rw [q1, q2] at hI
      simp only [FP.indep, Bool.and_eq_true, List.all_eq_true, Bool.or_eq_true] at hI
      obtain ⟨i1, i2⟩ := hI
      have hkeep : ∀ f s, (f, s) ∈ r' → hget H f s = hget H1 f s := fun f s hm => (k1 f s (i2 (f, s) hm)).1
      refine ⟨_, _, g2 t H (apart_agree ha v t).symm hkeep, ?_⟩
      rcases i1 with i1 | i1
      · have := idsL_nil i1
        subst this
        simp only [wrL]
        rw [(g1 _ (apart_agree hs u t)).1, put_comm ha]
      · obtain ⟨o', rfl, hn⟩ := f2 i1
        have hn0 : hget H 0 (base + j) = none := (hkeep _ _ m2).trans hn
        have hl := (k1 _ _ (i2 _ m2)).2
        have sp : Spot (base + j) H := ⟨by omega, hn0⟩
        have hne : base + i ≠ base + j := by
          intro e
          have : i = j := by omega
          subst this
          rw [q1] at q2; cases q2
        simp only [wrL]
        rw [(g1 _ (apart_agree hs u t)).2 (base + j) o' sp hne, put_comm ha]
    · rw [q1, q2] at hI; cases hI
    · rw [q1, q2] at hI; cases hI
  · rcases step_cases hC tm hj h2 with ⟨q2, u, rfl, rfl, g2⟩ | ⟨w', u, r', fr', q2, rfl, rfl, f2, m2, g2⟩ | ⟨k', u, q2, rfl, k2, g2⟩ | ⟨q2, u, rfl, g2⟩
    · refine ⟨_, _, g2 t H (apart_agree ha v t).symm, ?_⟩
      rw [g1 _ (apart_agree hs u t), put_comm ha]
    · rw [q1, q2] at hI; cases hI
    · rw [q1, q2] at hI; cases hI
    · rw [q1, q2] at hI; cases hI

theorem runT_bubble (hC : CMono C) (tm : Tame pol) (hlim : base + ops.size ≤ lim) {i : Nat} {l2 : List Nat} {res : List V × Heap} (hi : i < ops.size) : ∀ (l1 : List Nat) (t : List V) (H : Heap),
    (∀ j ∈ l1, j < ops.size ∧ apartO ops (ops.getD j default) (ops.getD i default) = true ∧ (T.getD j .all).indep (T.getD i .all) = true) →
    runT P pol C ops base lim T (l1 ++ i :: l2) t H = some res → runT P pol C ops base lim T (i :: (l1 ++ l2)) t H = some res
  | [], t, H, _, h => h
  | j :: l1, t, H, hl, h => by
    obtain ⟨hj, ha, hI⟩ := hl j (by simp)
    simp only [List.cons_append, runT] at h
    cases h1 : stepT P pol C ops base lim T j t H with
    | none => rw [h1] at h; cases h
    | some x =>
      obtain ⟨t1, H1⟩ := x
      rw [h1] at h
      have ih := runT_bubble hC tm hlim hi l1 t1 H1 (fun k hk => hl k (by simp [hk])) h
      simp only [runT] at ih
      cases h2 : stepT P pol C ops base lim T i t1 H1 with
      | none => rw [h2] at ih; cases ih
      | some y =>
        obtain ⟨t2, H2⟩ := y
        rw [h2] at ih
        have e1 : ops[j]? = some (ops.getD j default) := by simp [Array.getD, hj]
        have e2 : ops[i]? = some (ops.getD i default) := by simp [Array.getD, hi]
        obtain ⟨t1', H1', g1, g2⟩ := step_swap hC tm hlim e1 e2 ha hI h1 h2
        simp only [List.cons_append, runT, g1, g2]
        exact ih

end

/-! ### What is ordered -/

theorem before_spec (ops : Array Oper) : (Region.before ops).size = ops.size ∧ ∀ i o j, ops[i]? = some o → ((Region.before ops).getD i 0).testBit j = true →
    ∃ e ∈ o.after, Region.binds .any e = true ∧ (e.on = j ∨ ((Region.before ops).getD e.on 0).testBit j = true) := by
  have key : ∀ (l : List Oper) (acc : Array Nat) (pre : List Oper), acc.size = pre.length →
      (∀ i o j, pre[i]? = some o → (acc.getD i 0).testBit j = true → ∃ e ∈ o.after, Region.binds .any e = true ∧ (e.on = j ∨ (acc.getD e.on 0).testBit j = true)) →
      (l.foldl (fun acc o => acc.push (o.after.foldl (fun s e => if Region.binds .any e then s ||| 2 ^ e.on ||| acc.getD e.on 0 else s) 0)) acc).size = pre.length + l.length ∧
      ∀ i o j, (pre ++ l)[i]? = some o → ((l.foldl (fun acc o => acc.push (o.after.foldl (fun s e => if Region.binds .any e then s ||| 2 ^ e.on ||| acc.getD e.on 0 else s) 0)) acc).getD i 0).testBit j = true →
        ∃ e ∈ o.after, Region.binds .any e = true ∧ (e.on = j ∨ ((l.foldl (fun acc o => acc.push (o.after.foldl (fun s e => if Region.binds .any e then s ||| 2 ^ e.on ||| acc.getD e.on 0 else s) 0)) acc).getD e.on 0).testBit j = true) := by
    intro l
    induction l with
    | nil => intro acc pre hs h; simpa [hs] using h
    | cons o l ih =>
      intro acc pre hs h
      simp only [List.foldl_cons]
      generalize hn : o.after.foldl (fun s e => if Region.binds .any e then s ||| 2 ^ e.on ||| acc.getD e.on 0 else s) 0 = n
      have hgrow : ∀ k j, (acc.getD k 0).testBit j = true → ((acc.push n).getD k 0).testBit j = true := by
        intro k j hb
        have hk : k < acc.size := by
          rcases Nat.lt_or_ge k acc.size with hk | hk
          · exact hk
          · simp [Array.getD, Nat.not_lt.2 hk] at hb
        have : (acc.push n).getD k 0 = acc.getD k 0 := by
          simp only [Array.getD, hk, Array.size_push, Nat.lt_succ_of_lt hk, dif_pos, Array.getInternal_eq_getElem]
          exact Array.getElem_push_lt hk
        rw [this]; exact hb
      have hfold : ∀ (es : List Edge) (s j : Nat), ((es.foldl (fun s e => if Region.binds .any e then s ||| 2 ^ e.on ||| acc.getD e.on 0 else s) s)).testBit j = true →
          s.testBit j = true ∨ ∃ e ∈ es, Region.binds .any e = true ∧ (e.on = j ∨ (acc.getD e.on 0).testBit j = true) := by
        intro es
        induction es with
        | nil => intro s j hb; exact .inl hb
        | cons e es ihe =>
          intro s j hb
          simp only [List.foldl_cons] at hb
          rcases ihe _ j hb with g | ⟨e', he', g⟩
          · by_cases hbd : Region.binds .any e = true
            · rw [if_pos hbd] at g
              simp only [Nat.testBit_or, Bool.or_eq_true, Nat.testBit_two_pow, decide_eq_true_eq] at g
              rcases g with (g | g) | g
              · exact .inl g
              · exact .inr ⟨e, by simp, hbd, .inl g⟩
              · exact .inr ⟨e, by simp, hbd, .inr g⟩
            · rw [if_neg hbd] at g
              exact .inl g
          · exact .inr ⟨e', by simp [he'], g⟩
      have := ih (acc.push n) (pre ++ [o]) (by simp [hs]) (by
        intro i o' j hi hb
        rcases Nat.lt_or_ge i pre.length with hlt | hge
        · have hi' : pre[i]? = some o' := by rw [List.getElem?_append_left hlt] at hi; exact hi
          have : (acc.push n).getD i 0 = acc.getD i 0 := by
            have hk : i < acc.size := by omega
            simp only [Array.getD, hk, Array.size_push, Nat.lt_succ_of_lt hk, dif_pos, Array.getInternal_eq_getElem]
            exact Array.getElem_push_lt hk
          rw [this] at hb
          obtain ⟨e, h1, h2, h3⟩ := h i o' j hi' hb
          exact ⟨e, h1, h2, h3.imp_right (hgrow _ _)⟩
        · have hieq : i = pre.length := by
            rcases Nat.lt_or_ge i (pre ++ [o]).length with g | g
            · simp at g; omega
            · rw [List.getElem?_eq_none g] at hi; cases hi
          subst hieq
          have ho : o' = o := by simpa using hi.symm
          subst ho
          have hnv : (acc.push n).getD pre.length 0 = n := by rw [← hs]; simp [Array.getD]
          rw [hnv, ← hn, ← Array.foldl_toList] at hb
          rcases hfold _ _ _ hb with g | ⟨e, h1, h2, h3⟩
          · simp at g
          · exact ⟨e, by simpa using h1, h2, h3.imp_right (hgrow _ _)⟩)
      simpa [Nat.add_assoc, Nat.add_comm 1] using this
  have := key ops.toList #[] [] rfl (by intro i o j hi; simp at hi)
  simp only [List.length_nil, Nat.zero_add, List.nil_append, Array.length_toList] at this
  have e : Region.before ops = ops.toList.foldl (fun acc o => acc.push (o.after.foldl (fun s e => if Region.binds .any e then s ||| 2 ^ e.on ||| acc.getD e.on 0 else s) 0)) #[] := by
    unfold Region.before; rw [← Array.foldl_toList]
  rw [e]
  refine ⟨this.1, fun i o j hi hb => this.2 i o j (by simpa using hi) hb⟩

end Go.AM.BM
end
