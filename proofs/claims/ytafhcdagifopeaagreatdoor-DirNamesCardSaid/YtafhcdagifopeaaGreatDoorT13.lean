/- This file holds in one the texts An20, An21; each says at its head what it proves. -/
import Derived.Test.YtafhcdagifopeaaGreatDoorT12
set_option linter.unusedSimpArgs false
set_option linter.unusedVariables false
section
/- The abstract machine, part 20: operations that are not ordered may change places. -/
namespace Go.AM

def opNames (ops : Array Oper) (o : Oper) : List Nat :=
  o.dst.toList ++ (o.op.operands.toList.filterMap fun | .tmp i => some i | _ => none) ++ (match o.guard with | some (j, _) => ((ops[j]?).bind (·.dst)).toList | none => [])

def apartO (ops : Array Oper) (a b : Oper) : Bool :=
  (match a.dst with | some d => !(opNames ops b).contains d | none => true) && (match b.dst with | some d => !(opNames ops a).contains d | none => true)

section
variable {P : Program} {pol : Pol} {C : Call} {fn fr : Nat} {ops : Array Oper}

theorem putT_get (t : List V) (dst : Option Nat) (v : V) (i : Nat) (h : dst ≠ some i) : (putT t dst v)[i]? = t[i]? := by
  cases dst with
  | none => rfl
  | some d =>
    simp only [putT]
    rw [List.getElem?_set_ne]
    exact fun e => h (by rw [e])

theorem rho_put (t : List V) (dst : Option Nat) (v : V) (x : Operand) (h : ∀ i, x = .tmp i → dst ≠ some i) : rho (putT t dst v) x = rho t x := by
  cases x with
  | tmp i => simp only [rho, List.getD, putT_get t dst v i (h i rfl)]
  | _ => rfl

theorem apart_operand {a b : Oper} (h : apartO ops a b = true) {v : V} (t : List V) : ∀ x ∈ b.op.operands, rho (putT t a.dst v) x = rho t x := by
  intro x hx
  refine rho_put t a.dst v x ?_
  intro i e hd
  simp only [apartO, hd, Bool.and_eq_true, Bool.not_eq_true'] at h
  have : i ∈ opNames ops b := by
    subst e
    simp only [opNames, List.mem_append, List.mem_filterMap]
    exact .inl (.inr ⟨.tmp i, by simpa using hx, rfl⟩)
  have h1 := h.1
  simp at h1
  exact h1 this

theorem apart_wanted {a b : Oper} (h : apartO ops a b = true) {v : V} (t : List V) : wantedV ops (putT t a.dst v) b = wantedV ops t b := by
  unfold wantedV
  cases hg : b.guard with
  | none => rfl
  | some jw =>
    obtain ⟨j, want⟩ := jw
    simp only
    cases hd : (ops[j]?).bind (·.dst) with
    | none => rfl
    | some d =>
      simp only [Option.bind_some]
      rw [putT_get]
      intro e
      simp only [apartO, e, Bool.and_eq_true, Bool.not_eq_true'] at h
      have : d ∈ opNames ops b := by
        simp only [opNames, List.mem_append, hg, hd]
        exact .inr (by simp)
      have h1 := h.1
      simp at h1
      exact h1 this

theorem apart_symm {a b : Oper} (h : apartO ops a b = true) : apartO ops b a = true := by
  simp only [apartO, Bool.and_eq_true] at h ⊢; exact ⟨h.2, h.1⟩

theorem put_comm {a b : Oper} (h : apartO ops a b = true) (t : List V) (v u : V) : putT (putT t a.dst v) b.dst u = putT (putT t b.dst u) a.dst v := by
  cases ha : a.dst with
  | none => rfl
  | some d =>
    cases hb : b.dst with
    | none => rfl
    | some e =>
      simp only [putT]
      rw [List.set_comm]
      intro he
      subst he
      simp only [apartO, ha, hb, Bool.and_eq_true, Bool.not_eq_true'] at h
      have : d ∈ opNames ops b := by simp [opNames, hb]
      have h1 := h.1
      simp at h1
      exact h1 this

theorem fset_comm (s s' : Nat) (o o' : O) (h : s ≠ s') : ∀ fr : Frame, fset (fset fr s o) s' o' = fset (fset fr s' o') s o
  | [] => by
    simp only [fset]
    by_cases h1 : s' < s
    · have h2 : ¬ s < s' := by omega
      simp only [h, h.symm, h1, h2, if_true, if_false]
    · have h2 : s < s' := by omega
      simp only [h, h.symm, h1, h2, if_true, if_false]
  | (k, p) :: r => by
    simp only [fset]
    by_cases e1 : s = k
    · subst e1
      simp only [if_true]
      by_cases e2 : s' < s
      · have : ¬ s < s' := by omega
        simp only [fset, h, h.symm, e2, this, if_true, if_false]
      · simp only [fset, h, h.symm, e2, if_true, if_false]
    · by_cases e2 : s' = k
      · subst e2
        simp only [if_true, e1, if_false]
        by_cases e3 : s < s'
        · have : ¬ s' < s := by omega
          simp only [fset, h, h.symm, e3, this, if_true, if_false]
        · simp only [fset, h, e3, if_true, if_false]
      · simp only [e1, e2, if_false]
        by_cases e3 : s < k
        · by_cases e4 : s' < k
          · simp only [e3, e4, if_true, fset, h, h.symm, if_false]
            by_cases e5 : s' < s
            · have : ¬ s < s' := by omega
              simp only [e5, this, e3, e1, if_true, if_false]
            · have : s < s' := by omega
              simp only [e5, this, e4, e2, if_true, if_false]
          · have : ¬ s' < s := by omega
            simp only [e3, e4, if_true, if_false, fset, h.symm, e1, e2, this]
        · by_cases e4 : s' < k
          · have : ¬ s < s' := by omega
            simp only [e3, e4, if_true, if_false, fset, h, e1, e2, this]
          · simp only [e3, e4, if_false, fset, e1, e2, fset_comm s s' o o' h r]

theorem hset_comm (H : Heap) {f s f' s' : Nat} (o o' : O) (h : ¬ (f = f' ∧ s = s')) : hset (hset H f s o) f' s' o' = hset (hset H f' s' o') f s o := by
  unfold hset
  apply List.ext_getElem?
  intro i
  simp only [List.getElem?_modify]
  by_cases e1 : f = i
  · by_cases e2 : f' = i
    · have hs : s ≠ s' := fun e => h ⟨e1.trans e2.symm, e⟩
      simp only [e1, e2, if_true]
      cases H[i]? with
      | none => rfl
      | some x => simp [fset_comm s s' o o' hs x]
    · simp only [e1, e2, if_true, if_false]
      cases H[i]? <;> rfl
  · by_cases e2 : f' = i
    · simp only [e1, e2, if_true, if_false]
      cases H[i]? <;> rfl
    · simp only [e1, e2, if_false]

theorem hget_hset_ne (H : Heap) {f s f' s' : Nat} (o : O) (h : ¬ (f' = f ∧ s' = s)) : hget (hset H f s o) f' s' = hget H f' s' := by
  unfold hget hset
  rw [List.getElem?_modify]
  by_cases e : f = f'
  · subst e
    cases H[f]? with
    | none => rfl
    | some x => simp [fget_fset]; exact fun h' => absurd ⟨rfl, h'⟩ h
  · simp only [e, if_false]
    cases H[f']? <;> rfl

def widOf : Option (Nat × Nat × O) → List (Nat × Nat)
  | none => []
  | some (f, s, _) => [(f, s)]

theorem fp_cases (t : List V) (H : Heap) (o : Oper) {t1 : List V} {H1 : Heap} (h : opOne P pol C fn fr t H o = some (.normal, t1, H1)) :
    (fpOf P pol fn fr t H o = .quiet ∧ ∃ v, t1 = putT t o.dst v ∧ H1 = H ∧ ∀ (t' : List V) (H' : Heap), (∀ x ∈ o.op.operands, rho t' x = rho t x) → opOne P pol C fn fr t' H' o = some (.normal, putT t' o.dst v, H') ∧ fpOf P pol fn fr t' H' o = .quiet) ∨
    (∃ w v, fpOf P pol fn fr t H o = .ids (idsOf fr (rho t) o) (widOf w) ∧ t1 = putT t o.dst v ∧ H1 = wr H w ∧
      ∀ (t' : List V) (H' : Heap), (∀ x ∈ o.op.operands, rho t' x = rho t x) → (∀ f s, (f, s) ∈ idsOf fr (rho t) o → hget H' f s = hget H f s) →
        opOne P pol C fn fr t' H' o = some (.normal, putT t' o.dst v, wr H' w) ∧ fpOf P pol fn fr t' H' o = .ids (idsOf fr (rho t) o) (widOf w)) ∨
    (fpOf P pol fn fr t H o = .all ∧ ∃ v, t1 = putT t o.dst v ∧
      ∀ (t' : List V), (∀ x ∈ o.op.operands, rho t' x = rho t x) → opOne P pol C fn fr t' H o = some (.normal, putT t' o.dst v, H1) ∧ fpOf P pol fn fr t' H o = .all) := by
  have hids : ∀ t' : List V, (∀ x ∈ o.op.operands, rho t' x = rho t x) → idsOf fr (rho t') o = idsOf fr (rho t) o := by
    intro t' ht
    simp only [idsOf]
    congr 1
    have : ∀ l : List Operand, (∀ x ∈ l, rho t' x = rho t x) → l.filterMap (fun x => (rho t' x).id?) = l.filterMap fun x => (rho t x).id? := by
      intro l
      induction l with
      | nil => intro _; rfl
      | cons x l ih => intro hl; simp only [List.filterMap_cons]; rw [hl x (by simp), ih (fun y hy => hl y (by simp [hy]))]
    exact this _ (fun x hx => ht x (by simpa using hx))
  unfold opOne at h
  by_cases hq : quietOp o.op = true
  · left
    split at h
    · cases h
    · rename_i v w hev
      obtain ⟨v', hv'⟩ := evOp_quiet_val hq hev
      cases hv'
      cases h
      refine ⟨by simp [fpOf, hq], v, rfl, rfl, fun t' H' ht => ⟨?_, by simp [fpOf, hq]⟩⟩
      have e : evOp P (pol.mt fn) fr (hget H') (rho t') o = some (.val v none) := by
        rw [evOp_rho ht, evOp_quiet (g' := hget H) hq, hev]
      simp only [opOne, e, wr]
    · rename_i v hev
      obtain ⟨v', hv'⟩ := evOp_quiet_val hq hev
      cases hv'
    · rename_i f args hev
      obtain ⟨v', hv'⟩ := evOp_quiet_val hq hev
      cases hv'
    · rename_i f s args hev
      obtain ⟨v', hv'⟩ := evOp_quiet_val hq hev
      cases hv'
  · split at h
    · cases h
    · rename_i v w hev
      by_cases hfar : farOp o.op = true
      · right; right
        cases h
        refine ⟨by simp [fpOf, hq, hfar], v, rfl, fun t' ht => ⟨?_, by simp [fpOf, hq, hfar]⟩⟩
        have e : evOp P (pol.mt fn) fr (hget H) (rho t') o = some (.val v w) := by rw [evOp_rho ht, hev]
        simp only [opOne, e]
      have hfar' : farOp o.op = false := by simpa using hfar
      right; left
      cases h
      have hfp : ∀ (t' : List V) (H' : Heap), evOp P (pol.mt fn) fr (hget H') (rho t') o = some (.val v w) → idsOf fr (rho t') o = idsOf fr (rho t) o → fpOf P pol fn fr t' H' o = .ids (idsOf fr (rho t) o) (widOf w) := by
        intro t' H' e hi
        simp only [fpOf, hq, hfar', Bool.false_eq_true, if_false, e]
        cases w with
        | none => simp only [widOf, hi]
        | some x => obtain ⟨f, s, q⟩ := x; simp only [widOf, hi]
      refine ⟨w, v, hfp t H hev rfl, rfl, rfl, fun t' H' ht hg => ?_⟩
      have e : evOp P (pol.mt fn) fr (hget H') (rho t') o = some (.val v w) := by
        rw [evOp_rho ht, evOp_get (g' := hget H) hfar' hg, hev]
      exact ⟨by simp only [opOne, e], hfp t' H' e (hids t' ht)⟩
    · cases h
    · rename_i f args hev
      have hfar' : farOp o.op = false := by
        cases ho : o.op <;> first | rfl | skip
        simp only [evOp, ho] at hev
        cases hx : entryV (hget H) (rho t _) with
        | none => rw [hx] at hev; cases hev
        | some y => rw [hx] at hev; cases hev
      have hcall : ∀ (t' : List V) (H' : Heap), (∀ x ∈ o.op.operands, rho t' x = rho t x) → evOp P (pol.mt fn) fr (hget H') (rho t') o = some (.call f args) := by
        intro t' H' ht
        rw [evOp_rho ht]
        exact evOp_call hev
      by_cases hp : ((pol.prim f).isNone && pol.pure fn f) = true
      · left
        have hp' := hp
        simp only [Bool.and_eq_true, Option.isNone_iff_eq_none] at hp'
        have pureCall : ∀ (H' : Heap), callOp pol C fn fr o.dst f args H' = (callOp pol C fn fr o.dst f args H).map fun x => (x.1, H') := by
          intro H'
          simp only [callOp, hp'.1, hp'.2, if_true]
          split
          · split
            · rename_i v1 H2 _; cases frz (hget H2) depth v1 <;> rfl
            · rename_i v1 H2 _; cases frz (hget H2) depth v1 <;> rfl
            · rfl
          · rfl
        split at h
        · rename_i v H2 hc
          cases h
          have hH : H1 = H := by
            have := pureCall H
            rw [hc] at this
            simp at this
            exact this
          subst hH
          refine ⟨by simp only [fpOf, hq, hfar', Bool.false_eq_true, if_false, hev, hp, if_true], v, rfl, rfl, fun t' H' ht => ⟨?_, ?_⟩⟩
          · have := pureCall H'
            rw [hc] at this
            simp only [opOne, hcall t' H' ht, this, Option.map_some]
          · simp only [fpOf, hq, hfar', Bool.false_eq_true, if_false, hcall t' H' ht, hp, if_true]
        · cases h
        · cases h
      · by_cases hl : ((pol.prim f).isNone && pol.lift fn f) = true
        · cases hd : o.dst with
          | none =>
            right; right
            split at h
            · rename_i v H2 hc
              cases h
              refine ⟨by simp only [fpOf, hq, hfar', Bool.false_eq_true, if_false, hev, hp, hl, if_true, hd], v, by rw [hd], fun t' ht => ⟨?_, ?_⟩⟩
              · rw [hd] at hc; simp only [opOne, hcall t' H ht, hc, hd]
              · simp only [fpOf, hq, hfar', Bool.false_eq_true, if_false, hcall t' H ht, hp, hl, if_true, hd]
            · cases h
            · cases h
          | some d =>
            right; left
            have hl' := hl
            simp only [Bool.and_eq_true, Option.isNone_iff_eq_none] at hl'
            have hpure : pol.pure fn f = false := by
              cases hx : pol.pure fn f with
              | false => rfl
              | true => exact absurd (by simp [hl'.1, hx]) hp
            have liftCall : ∀ (H' : Heap), (hget H' fr d = hget H fr d) → callOp pol C fn fr (some d) f args H' = (callOp pol C fn fr (some d) f args H).bind fun x => match x with
                | (.ret v, _) => (match callOp pol C fn fr (some d) f args H with
                  | some _ => (match frzL (frz (fun _ _ => none) depth) args with
                    | some args => (match C f args [] with
                      | some (.ret v, H2) => (liftV H2 fr (some d) H v).map fun x => (.ret x.1, wr H' (some (fr, x.2.1, x.2.2)))
                      | _ => none)
                    | none => none)
                  | none => none)
                | _ => none := by
              intro H' hg
              simp only [callOp, hl'.1, hl'.2, hpure, Bool.false_eq_true, if_false, if_true]
              cases frzL (frz (fun _ _ => none) depth) args with
              | none => rfl
              | some ys =>
                simp only
                cases C f ys [] with
                | none => rfl
                | some q =>
                  obtain ⟨q, H2⟩ := q
                  cases q with
                  | pan v => rfl
                  | ret v =>
                    simp only
                    have : liftV H2 fr (some d) H' v = liftV H2 fr (some d) H v := by
                      unfold liftV
                      cases v <;> simp only [hg]
                    rw [this]
                    cases liftV H2 fr (some d) H v <;> rfl
            have hshape : ∀ v H2, callOp pol C fn fr (some d) f args H = some (.ret v, H2) → ∃ o', H2 = wr H (some (fr, d, o')) ∧ ∀ H', hget H' fr d = hget H fr d → callOp pol C fn fr (some d) f args H' = some (.ret v, wr H' (some (fr, d, o'))) := by
              intro v H2 hc
              have hc0 := hc
              simp only [callOp, hl'.1, hl'.2, hpure, Bool.false_eq_true, if_false, if_true] at hc
              split at hc
              case h_2 => cases hc
              rename_i ys hys
              split at hc
              case h_2 => cases hc
              rename_i v1 H1' hC
              cases hL : liftV H1' fr (some d) H v1 with
              | none => rw [hL] at hc; cases hc
              | some x =>
                rw [hL] at hc; cases hc
                have hx : x.2.1 = d := by
                  unfold liftV at hL
                  split at hL
                  · rename_i hdd
                    split at hL
                    · rename_i es bs clk _ _
                      cases hz : frzM (frz (hget H1') depth) es with
                      | none => rw [hz] at hL; cases hL
                      | some es' => rw [hz] at hL; cases hL; cases hdd; rfl
                    · cases hL
                  · rename_i hdd
                    split at hL
                    · split at hL
                      · cases hL; cases hdd; rfl
                      · cases hL
                    · cases hL
                  · cases hL
                rw [hx]
                refine ⟨x.2.2, rfl, fun H' hg => ?_⟩
                rw [liftCall H' hg, hc0]
                simp only [Option.bind_some, hys, hC, hL, Option.map_some, hx]
            split at h
            · rename_i v H2 hc
              rw [hd] at hc
              cases h
              obtain ⟨o', rfl, hall⟩ := hshape v _ hc
              have hfp : ∀ (t' : List V) (H' : Heap), (∀ x ∈ o.op.operands, rho t' x = rho t x) → fpOf P pol fn fr t' H' o = .ids (idsOf fr (rho t) o) (widOf (some (fr, d, o'))) := by
                intro t' H' ht
                simp only [fpOf, hq, hfar', Bool.false_eq_true, if_false, hcall t' H' ht, hp, hl, if_true, hd, widOf, hids t' ht]
              refine ⟨some (fr, d, o'), v, hfp t H (fun _ _ => rfl), by rw [hd], rfl, fun t' H' ht hg => ⟨?_, hfp t' H' ht⟩⟩
              have hgd := hg fr d (ids_own hd)
              simp only [opOne, hcall t' H' ht, hd, hall H' hgd]
            · cases h
            · cases h
        · right; right
          split at h
          · rename_i v H2 hc
            cases h
            refine ⟨by simp only [fpOf, hq, hfar', Bool.false_eq_true, if_false, hev, hp, hl], v, rfl, fun t' ht => ⟨?_, ?_⟩⟩
            · simp only [opOne, hcall t' H ht, hc]
            · simp only [fpOf, hq, hfar', Bool.false_eq_true, if_false, hcall t' H ht, hp, hl]
          · cases h
          · cases h
    · rename_i f s args hev
      right; right
      have he : ∀ t' : List V, (∀ x ∈ o.op.operands, rho t' x = rho t x) → evOp P (pol.mt fn) fr (hget H) (rho t') o = some (.round f s args) := fun t' ht => by rw [evOp_rho ht, hev]
      have hall : ∀ t' : List V, (∀ x ∈ o.op.operands, rho t' x = rho t x) → fpOf P pol fn fr t' H o = .all := fun t' ht => by
        simp only [fpOf, hq, Bool.false_eq_true, if_false, he t' ht]
        split <;> rfl
      split at h
      · rename_i v H2 hc
        cases h
        refine ⟨hall t (fun _ _ => rfl), v, rfl, fun t' ht => ⟨?_, hall t' ht⟩⟩
        simp only [opOne, he t' ht, hc]
      · cases h

def stepT (P : Program) (pol : Pol) (C : Call) (fn fr : Nat) (ops : Array Oper) (T : List FP) (i : Nat) (t : List V) (H : Heap) : Option (List V × Heap) :=
  match ops[i]? with
  | none => none
  | some o => match wantedV ops t o with
    | none => none
    | some false => if T.getD i .all = .quiet then some (putT t o.dst nov, H) else none
    | some true => if fpOf P pol fn fr t H o = T.getD i .all then (match opOne P pol C fn fr t H o with
      | some (.normal, t1, H1) => some (t1, H1)
      | _ => none) else none

def runT (P : Program) (pol : Pol) (C : Call) (fn fr : Nat) (ops : Array Oper) (T : List FP) : List Nat → List V → Heap → Option (List V × Heap)
  | [], t, H => some (t, H)
  | i :: r, t, H => match stepT P pol C fn fr ops T i t H with
    | some (t1, H1) => runT P pol C fn fr ops T r t1 H1
    | none => none

end
end Go.AM
end
section
/- The abstract machine, part 21: every order that a region may draw comes to what the order of the text comes to. -/
namespace Go.AM

section
variable {P : Program} {pol : Pol} {C : Call} {fn fr : Nat} {ops : Array Oper} {T : List FP}

def Agree (ops : Array Oper) (o : Oper) (t' t : List V) : Prop := (∀ x ∈ o.op.operands, rho t' x = rho t x) ∧ wantedV ops t' o = wantedV ops t o

theorem apart_agree {a b : Oper} (h : apartO ops a b = true) (v : V) (t : List V) : Agree ops b (putT t a.dst v) t := ⟨apart_operand h t, apart_wanted h t⟩

theorem Agree.symm {o : Oper} {t t' : List V} (h : Agree ops o t t') : Agree ops o t' t := ⟨fun x hx => (h.1 x hx).symm, h.2.symm⟩

theorem step_cases {i : Nat} {o : Oper} {t t1 : List V} {H H1 : Heap} (ho : ops[i]? = some o) (h : stepT P pol C fn fr ops T i t H = some (t1, H1)) :
    (T.getD i .all = .quiet ∧ ∃ v, t1 = putT t o.dst v ∧ H1 = H ∧ ∀ t' H', Agree ops o t' t → stepT P pol C fn fr ops T i t' H' = some (putT t' o.dst v, H')) ∨
    (∃ w v r, T.getD i .all = .ids r (widOf w) ∧ t1 = putT t o.dst v ∧ H1 = wr H w ∧
      ∀ t' H', Agree ops o t' t → (∀ f s, (f, s) ∈ r → hget H' f s = hget H f s) → stepT P pol C fn fr ops T i t' H' = some (putT t' o.dst v, wr H' w)) ∨
    (T.getD i .all = .all ∧ ∃ v, t1 = putT t o.dst v ∧ ∀ t', Agree ops o t' t → stepT P pol C fn fr ops T i t' H = some (putT t' o.dst v, H1)) := by
  simp only [stepT, ho] at h ⊢
  split at h
  · cases h
  · rename_i hw
    split at h
    · rename_i hT
      cases h
      left
      refine ⟨hT, nov, rfl, rfl, fun t' H' ha => ?_⟩
      rw [ha.2, hw]
      simp only [hT, if_true]
    · cases h
  · rename_i hw
    split at h
    case isFalse => cases h
    rename_i hT
    split at h
    case h_2 => cases h
    rename_i t2 H2 hop
    cases h
    rcases fp_cases t H o hop with ⟨h1, v, h2, h3, h4⟩ | ⟨w, v, h1, h2, h3, h4⟩ | ⟨h1, v, h2, h3⟩
    · left
      refine ⟨hT.symm.trans h1, v, h2, h3, fun t' H' ha => ?_⟩
      obtain ⟨g1, g2⟩ := h4 t' H' ha.1
      rw [ha.2, hw]
      simp only [g1, g2, ← hT, h1, if_true]
    · right; left
      refine ⟨w, v, _, hT.symm.trans h1, h2, h3, fun t' H' ha hg => ?_⟩
      obtain ⟨g1, g2⟩ := h4 t' H' ha.1 hg
      rw [ha.2, hw]
      simp only [g1, g2, ← hT, h1, if_true]
    · right; right
      refine ⟨hT.symm.trans h1, v, h2, fun t' ha => ?_⟩
      obtain ⟨g1, g2⟩ := h3 t' ha.1
      rw [ha.2, hw]
      simp only [g1, g2, ← hT, h1, if_true]

theorem meets_no {a b : List (Nat × Nat)} (h : (!meets a b) = true) {x : Nat × Nat} (hx : x ∈ a) : x ∉ b := by
  intro hb
  simp only [meets, Bool.not_eq_true', List.any_eq_false] at h
  exact h x hx (by simpa using hb)

theorem wr_get {H : Heap} {w : Option (Nat × Nat × O)} {f s : Nat} (h : (f, s) ∉ widOf w) : hget (wr H w) f s = hget H f s := by
  cases w with
  | none => rfl
  | some x =>
    obtain ⟨f', s', q⟩ := x
    simp only [wr]
    refine hget_hset_ne H q ?_
    rintro ⟨rfl, rfl⟩
    exact h (by simp [widOf])

theorem wr_comm {H : Heap} {w w' : Option (Nat × Nat × O)} (h : (!meets (widOf w) (widOf w')) = true) : wr (wr H w) w' = wr (wr H w') w := by
  cases w with
  | none => rfl
  | some x =>
    cases w' with
    | none => rfl
    | some y =>
      obtain ⟨f, s, q⟩ := x
      obtain ⟨f', s', q'⟩ := y
      simp only [wr]
      refine hset_comm H q q' ?_
      rintro ⟨rfl, rfl⟩
      exact meets_no h (x := (f, s)) (by simp [widOf]) (by simp [widOf])

theorem step_swap {i j : Nat} {oi oj : Oper} (hi : ops[i]? = some oi) (hj : ops[j]? = some oj) (ha : apartO ops oi oj = true) (hI : (T.getD i .all).indep (T.getD j .all) = true)
    {t t1 t2 : List V} {H H1 H2 : Heap} (h1 : stepT P pol C fn fr ops T i t H = some (t1, H1)) (h2 : stepT P pol C fn fr ops T j t1 H1 = some (t2, H2)) :
    ∃ t1' H1', stepT P pol C fn fr ops T j t H = some (t1', H1') ∧ stepT P pol C fn fr ops T i t1' H1' = some (t2, H2) := by
  have hs := apart_symm ha
  rcases step_cases hi h1 with ⟨q1, v, rfl, rfl, g1⟩ | ⟨w, v, r, q1, rfl, rfl, g1⟩ | ⟨q1, v, rfl, g1⟩
  · rcases step_cases hj h2 with ⟨q2, u, rfl, rfl, g2⟩ | ⟨w', u, r', q2, rfl, rfl, g2⟩ | ⟨q2, u, rfl, g2⟩
    · refine ⟨_, _, g2 t H2 (apart_agree ha v t).symm, ?_⟩
      rw [g1 _ _ (apart_agree hs u t), put_comm ha]
    · refine ⟨_, _, g2 t H1 (apart_agree ha v t).symm (fun _ _ _ => rfl), ?_⟩
      rw [g1 _ _ (apart_agree hs u t), put_comm ha]
    · refine ⟨_, _, g2 t (apart_agree ha v t).symm, ?_⟩
      rw [g1 _ _ (apart_agree hs u t), put_comm ha]
  · rcases step_cases hj h2 with ⟨q2, u, rfl, rfl, g2⟩ | ⟨w', u, r', q2, rfl, rfl, g2⟩ | ⟨q2, u, rfl, g2⟩
    · refine ⟨_, _, g2 t H (apart_agree ha v t).symm, ?_⟩
      rw [g1 _ _ (apart_agree hs u t) (fun _ _ _ => rfl), put_comm ha]
    · rw [q1, q2] at hI
      simp only [FP.indep, Bool.and_eq_true] at hI
      obtain ⟨⟨i1, i2⟩, i3⟩ := hI
      refine ⟨_, _, g2 t H (apart_agree ha v t).symm (fun f s hm => ?_), ?_⟩
      · exact (wr_get (fun hw => meets_no i1 hw hm)).symm
      · rw [g1 _ _ (apart_agree hs u t) (fun f s hm => wr_get (fun hw => meets_no i3 hw hm)), put_comm ha, wr_comm i2]
    · rw [q1, q2] at hI; cases hI
  · rcases step_cases hj h2 with ⟨q2, u, rfl, rfl, g2⟩ | ⟨w', u, r', q2, rfl, rfl, g2⟩ | ⟨q2, u, rfl, g2⟩
    · refine ⟨_, _, g2 t H (apart_agree ha v t).symm, ?_⟩
      rw [g1 _ (apart_agree hs u t), put_comm ha]
    · rw [q1, q2] at hI; cases hI
    · rw [q1, q2] at hI; cases hI

theorem runT_bubble {i : Nat} {l2 : List Nat} {res : List V × Heap} (hi : i < ops.size) : ∀ (l1 : List Nat) (t : List V) (H : Heap),
    (∀ j ∈ l1, j < ops.size ∧ apartO ops (ops.getD j default) (ops.getD i default) = true ∧ (T.getD j .all).indep (T.getD i .all) = true) →
    runT P pol C fn fr ops T (l1 ++ i :: l2) t H = some res → runT P pol C fn fr ops T (i :: (l1 ++ l2)) t H = some res
  | [], t, H, _, h => h
  | j :: l1, t, H, hl, h => by
    obtain ⟨hj, ha, hI⟩ := hl j (by simp)
    simp only [List.cons_append, runT] at h
    cases h1 : stepT P pol C fn fr ops T j t H with
    | none => rw [h1] at h; cases h
    | some x =>
      obtain ⟨t1, H1⟩ := x
      rw [h1] at h
      have ih := runT_bubble hi l1 t1 H1 (fun k hk => hl k (by simp [hk])) h
      simp only [runT] at ih
      cases h2 : stepT P pol C fn fr ops T i t1 H1 with
      | none => rw [h2] at ih; cases ih
      | some y =>
        obtain ⟨t2, H2⟩ := y
        rw [h2] at ih
        have e1 : ops[j]? = some (ops.getD j default) := by simp [Array.getD, hj]
        have e2 : ops[i]? = some (ops.getD i default) := by simp [Array.getD, hi]
        obtain ⟨t1', H1', g1, g2⟩ := step_swap e1 e2 ha hI h1 h2
        simp only [List.cons_append, runT, g1, g2]
        exact ih

end

/-! ### What is ordered -/

theorem before_spec (ops : Array Oper) : (Region.before ops).size = ops.size ∧ ∀ i o j, ops[i]? = some o → ((Region.before ops).getD i 0).testBit j = true →
    ∃ e ∈ o.after, Region.binds .any e = true ∧ (e.on = j ∨ ((Region.before ops).getD e.on 0).testBit j = true) := by
  have key : ∀ (l : List Oper) (acc : Array Nat) (pre : List Oper), acc.size = pre.length →
      (∀ i o j, pre[i]? = some o → (acc.getD i 0).testBit j = true → ∃ e ∈ o.after, Region.binds .any e = true ∧ (e.on = j ∨ (acc.getD e.on 0).testBit j = true)) →
      (l.foldl (fun acc o => acc.push (o.after.foldl (fun s e => if Region.binds .any e then s ||| 2 ^ e.on ||| acc.getD e.on 0 else s) 0)) acc).size = pre.length + l.length ∧
      ∀ i o j, (pre ++ l)[i]? = some o → ((l.foldl (fun acc o => acc.push (o.after.foldl (fun s e => if Region.binds .any e then s ||| 2 ^ e.on ||| acc.getD e.on 0 else s) 0)) acc).getD i 0).testBit j = true →
        ∃ e ∈ o.after, Region.binds .any e = true ∧ (e.on = j ∨ ((l.foldl (fun acc o => acc.push (o.after.foldl (fun s e => if Region.binds .any e then s ||| 2 ^ e.on ||| acc.getD e.on 0 else s) 0)) acc).getD e.on 0).testBit j = true) := by
    intro l
    induction l with
    | nil => intro acc pre hs h; simpa [hs] using h
    | cons o l ih =>
      intro acc pre hs h
      simp only [List.foldl_cons]
      generalize hn : o.after.foldl (fun s e => if Region.binds .any e then s ||| 2 ^ e.on ||| acc.getD e.on 0 else s) 0 = n
      have hgrow : ∀ k j, (acc.getD k 0).testBit j = true → ((acc.push n).getD k 0).testBit j = true := by
        intro k j hb
        have hk : k < acc.size := by
          rcases Nat.lt_or_ge k acc.size with hk | hk
          · exact hk
          · simp [Array.getD, Nat.not_lt.2 hk] at hb
        have : (acc.push n).getD k 0 = acc.getD k 0 := by
          simp only [Array.getD, hk, Array.size_push, Nat.lt_succ_of_lt hk, dif_pos, Array.getInternal_eq_getElem]
          exact Array.getElem_push_lt hk
        rw [this]; exact hb
      have hfold : ∀ (es : List Edge) (s j : Nat), ((es.foldl (fun s e => if Region.binds .any e then s ||| 2 ^ e.on ||| acc.getD e.on 0 else s) s)).testBit j = true →
          s.testBit j = true ∨ ∃ e ∈ es, Region.binds .any e = true ∧ (e.on = j ∨ (acc.getD e.on 0).testBit j = true) := by
        intro es
        induction es with
        | nil => intro s j hb; exact .inl hb
        | cons e es ihe =>
          intro s j hb
          simp only [List.foldl_cons] at hb
          rcases ihe _ j hb with g | ⟨e', he', g⟩
          · by_cases hbd : Region.binds .any e = true
            · rw [if_pos hbd] at g
              simp only [Nat.testBit_or, Bool.or_eq_true, Nat.testBit_two_pow, decide_eq_true_eq] at g
              rcases g with (g | g) | g
              · exact .inl g
              · exact .inr ⟨e, by simp, hbd, .inl g⟩
              · exact .inr ⟨e, by simp, hbd, .inr g⟩
            · rw [if_neg hbd] at g
              exact .inl g
          · exact .inr ⟨e', by simp [he'], g⟩
      have := ih (acc.push n) (pre ++ [o]) (by simp [hs]) (by
        intro i o' j hi hb
        rcases Nat.lt_or_ge i pre.length with hlt | hge
        · have hi' : pre[i]? = some o' := by rw [List.getElem?_append_left hlt] at hi; exact hi
          have : (acc.push n).getD i 0 = acc.getD i 0 := by
            have hk : i < acc.size := by omega
            simp only [Array.getD, hk, Array.size_push, Nat.lt_succ_of_lt hk, dif_pos, Array.getInternal_eq_getElem]
            exact Array.getElem_push_lt hk
          rw [this] at hb
          obtain ⟨e, h1, h2, h3⟩ := h i o' j hi' hb
          exact ⟨e, h1, h2, h3.imp_right (hgrow _ _)⟩
        · have hieq : i = pre.length := by
            rcases Nat.lt_or_ge i (pre ++ [o]).length with g | g
            · simp at g; omega
            · rw [List.getElem?_eq_none g] at hi; cases hi
          subst hieq
          have ho : o' = o := by simpa using hi.symm
          subst ho
          have hnv : (acc.push n).getD pre.length 0 = n := by rw [← hs]; simp [Array.getD]
          rw [hnv, ← hn, ← Array.foldl_toList] at hb
          rcases hfold _ _ _ hb with g | ⟨e, h1, h2, h3⟩
          · simp at g
          · exact ⟨e, by simpa using h1, h2, h3.imp_right (hgrow _ _)⟩)
      simpa [Nat.add_assoc, Nat.add_comm 1] using this
  have := key ops.toList #[] [] rfl (by intro i o j hi; simp at hi)
  simp only [List.length_nil, Nat.zero_add, List.nil_append, Array.length_toList] at this
  have e : Region.before ops = ops.toList.foldl (fun acc o => acc.push (o.after.foldl (fun s e => if Region.binds .any e then s ||| 2 ^ e.on ||| acc.getD e.on 0 else s) 0)) #[] := by
    unfold Region.before; rw [← Array.foldl_toList]
  rw [e]
  refine ⟨this.1, fun i o j hi hb => this.2 i o j (by simpa using hi) hb⟩

end Go.AM
end
